/-
  SoundValues of the reference.
-/
import Derived.Test.YtjfcpnlacodjjaaSndC
namespace Go.Proofs.Ytjfcpnlacodjjaa
open Go Go.RowKit

theorem replK_set1 {v : Value} : ∀ {c : List Value} {o : Nat} {k : List Value → Prop}, o < c.length → k (c.set o v) → replK c o [v] k
  | [], o, k, h, _ => by simp at h
  | u :: c, 0, k, _, hk => by
    show replK c 0 [] fun r => k (v :: r)
    cases c <;> exact hk
  | u :: c, o + 1, k, h, hk => by
    show replK c o [v] fun r => k (u :: r)
    exact replK_set1 (by simpa using h) hk
section
variable {V W : World}
/-- one element of a row that is owned, written -/
theorem Rel.stRow {w0 V0 V w : World} {own : List Res} (H : Rel w0 V0 own V w) {i : Nat} {s : Sl} {e : TypeId} {xs : List Value} (hi : own[i]? = some (.row s e 1 xs)) (j : Nat) (hj : j < s.len) {b o : Nat} (hb : b = ablk s.a) (ho : o = aoff s.a + j) {v : Value} {k : World → Prop}
    (hk : ∀ w', Rel w0 V0 (own.set i (.row s e 1 (xs.set j v))) V w' → k w') : ∃ c t', Blk w b c t' ∧ replK c o [v] fun c' => ∀ w', Upd w b c' t' w' → k w' := by
  have hr := H.rowAt hi
  rcases hr.at_ with ⟨_, h2, _⟩ | ⟨b0, cur, h1, h2, h3, h4, h5, h6⟩
  · omega
  · rw [h1] at hb ho
    simp only [ablk, aoff, Nat.zero_add] at hb ho
    subst hb ho
    have hbl : Blk w b cur.toList e := by
      show w.heap[b]? = _
      rw [h2]
    refine ⟨cur.toList, e, hbl, replK_set1 (by rw [Array.length_toList, h5]; omega) fun w' hu => hk w' ?_⟩
    have hu' := hu
    obtain ⟨rfl⟩ := hu
    refine H.put hi rfl rfl rfl (by simp) (fun k _ hk => hu'.other fun e => hk (by rw [e]; simp [Res.at_, h1])) ⟨by rw [List.length_set, hr.len], .inr ⟨b, (cur.toList.set o v).toArray, h1, hu'.blk hbl.lt, h3, h4, by simp [h5], ?_⟩⟩ fun k hk => .inl hk
    rw [← h6]
    simp [List.take_set]
theorem itC_set (l : List Int) (j : Nat) (x : Int) : (l.flatMap itC).set j (iv x) = (l.set j x).flatMap itC := by
  have e : ∀ l : List Int, l.flatMap itC = l.map iv := fun l => by induction l with | nil => rfl | cons _ _ ih => simp [List.flatMap_cons, ih]
  rw [e, e, List.map_set]
theorem itN_itC (l : List Nat) : l.flatMap itN = (l.map fun n : Nat => (n : Int)).flatMap itC := by
  induction l with
  | nil => rfl
  | cons _ _ ih => simp [List.flatMap_cons, ih]
/-- the first k units are values -/
def mix (w : Bool) (U : List Nat) (k : Nat) : List Int := (U.map (valOfU w)).take k ++ (U.map fun n : Nat => (n : Int)).drop k
theorem mix_len (w : Bool) (U : List Nat) (k : Nat) : (mix w U k).length = U.length := by simp [mix]; omega
theorem mix_get {w : Bool} {U : List Nat} {k : Nat} (h : k < U.length) (h' : k < (mix w U k).length) : (mix w U k)[k] = (U[k] : Int) := by
  have e : (mix w U k)[k]? = some (U[k] : Int) := by
    unfold mix
    rw [List.getElem?_append_right (by simp; omega), List.getElem?_drop, List.getElem?_map]
    rw [show k + (k - (List.take k (List.map (valOfU w) U)).length) = k by rw [List.length_take, List.length_map]; omega, List.getElem?_eq_getElem h]
    rfl
  exact (List.getElem?_eq_some_iff.1 e).2
theorem mix_set {w : Bool} {U : List Nat} {k : Nat} (h : k < U.length) : (mix w U k).set k (valOfU w U[k]) = mix w U (k + 1) := by
  unfold mix
  rw [List.set_append_right _ _ (by simp; omega)]
  have : k - ((U.map (valOfU w)).take k).length = 0 := by simp; omega
  rw [this, List.drop_eq_getElem_cons (by simpa using h)]
  simp only [List.set_cons_zero]
  rw [List.take_succ_eq_append_getElem (by simpa using h)]
  simp
theorem mix_same {w : Bool} {U : List Nat} {k : Nat} (h : k < U.length) (e : valOfU w U[k] = (U[k] : Int)) : mix w U k = mix w U (k + 1) := by
  rw [← mix_set h, e]
  have := mix_get (w := w) h (by rw [mix_len]; exact h)
  rw [← this, List.set_getElem_self]
set_option maxRecDepth 100000 in
set_option maxHeartbeats 1000000 in
theorem soundValues_ref (hV : Sub V W) {ch coding : Nat} (hc : coding < 4) (hch : 1 ≤ ch ∧ ch ≤ 2) {s : Sl} {l : List UInt8} (hs : Byt V s l) (hl : l.length ≤ 1000000) :
    Ret Try.prog 50 [s.v, iv coding, iv ch].toArray W fun v w' => ∃ r : Sl, v = r.v ∧ Rel W V [.row r 3 1 ((sndVals l coding ch).flatMap itC)] V w' := by
  have H := Rel.start hV
  have hlen := hs.len
  have f256 : fullOf false = 256 := rfl
  have f65 : fullOf true = 65536 := rfl
  refine cal_of_vc tabOk Try.func50 rfl (by kernel_rfl) 98 rfl (by simp) [0, 1, 2, 6, 7, 8, 9, 10, 11, 12, 13, 18, 24, 34, 52, 70, 74, 88] ?_
  ((repeat ((conv => whnf); first | refine an ?_ | refine H.ce ?_ | refine H.db ?_ | refine ea ?_ | refine ol ?_ | (refine H.st ?_; (conv => whnf); clear H; intro w H) | refine cT ?_ | refine cF ?_ | refine cN ?_ | refine cM ?_ | refine H.lw ?_ | refine H.ll ?_)); (conv => whnf))
  obtain rfl | rfl | rfl | rfl : coding = 0 ∨ coding = 1 ∨ coding = 2 ∨ coding = 3 := by omega
  · replace H := H.rowNil 3 1
    ((repeat ((conv => whnf); first | refine an ?_ | ((first | refine H.nwD ?_ | refine H.nw ?_); clear H; intro w _ H) | refine H.ce ?_ | refine H.db ?_ | refine ea ?_ | refine ol ?_ | (refine H.st ?_; (conv => whnf); clear H; intro w H) | refine cT ?_ | refine cF ?_ | refine cN ?_ | refine cM ?_ | refine H.lw ?_ | refine H.ll ?_)); (conv => whnf))
    refine loop_inv (S := Nat × Sl) tabOk [0, 1, 2, 6, 7, 8, 13, 18, 70, 74, 88] (fun k => [(9, k.2.v), (10, iv ((k.1 * (0 % 2 + 1) : Nat) : Int))]) (fun k w' => k.1 ≤ (rawU (isWide 0) l).length ∧ Rel W V [.row k.2 3 1 ((unDiff (isDiff 0) ch (fullOf (isWide 0)) ((rawU (isWide 0) l).take k.1)).flatMap itN)] V w') (fun k _ => (rawU (isWide 0) l).length - k.1) (0, ⟨none, 0, 0⟩) ?_
    (conv => whnf)
    refine ⟨(by repeat (first | exact trivial | refine ⟨rfl, ?_⟩)), ⟨by omega, H⟩, ?_⟩
    clear H
    rintro ⟨k, r5⟩ w ⟨hk, H⟩
    dsimp only at hk H ⊢
    have hrl := rawU_len (isWide 0) l
    by_cases hlt : k < (rawU (isWide 0) l).length
    rotate_left
    · rw [if_neg (by decide)] at hrl
      simp only [Nat.zero_mod, Nat.zero_add, Nat.mul_one]
      rw [List.take_of_length_le (by omega)] at H
      obtain ⟨U, hU⟩ : ∃ U, U = unDiff (isDiff 0) ch (fullOf (isWide 0)) (rawU (isWide 0) l) := ⟨_, rfl⟩
      rw [show sndVals l 0 ch = U.map (valOfU (isWide 0)) by rw [hU]; rfl]
      rw [← hU] at H
      have hUl : U.length ≤ 1000000 := by rw [hU, unDiff_len]; omega
      have hUb : ∀ i : Nat, U[i]?.getD 0 < fullOf (isWide 0) := by rw [hU]; exact fun i => unDiff_lt (rawU_lt _ _) (by decide) i
      clear hU
      ((repeat ((conv => whnf); first | refine an ?_ | ((first | refine H.nwD ?_ | refine H.nw ?_); clear H; intro w _ H) | refine H.ce ?_ | refine H.db ?_ | refine ea ?_ | refine ol ?_ | (refine H.st ?_; (conv => whnf); clear H; intro w H) | refine cT ?_ | refine cF ?_ | refine cN ?_ | refine cM ?_ | refine H.lw ?_ | refine H.ll ?_)); (conv => whnf))
      rw [itN_itC] at H
      replace H : Rel W V [.row r5 3 1 ((mix (isWide 0) U 0).flatMap itC)] V w := H
      refine loop_inv (S := Nat) tabOk [0, 1, 2, 6, 7, 8, 9, 10, 11, 12, 18, 24, 34, 52] (fun j => [(13, iv j)]) (fun j w' => j ≤ U.length ∧ Rel W V [.row r5 3 1 ((mix (isWide 0) U j).flatMap itC)] V w') (fun j _ => U.length - j) 0 ?_
      (conv => whnf)
      refine ⟨(by repeat (first | exact trivial | refine ⟨rfl, ?_⟩)), ⟨by omega, H⟩, ?_⟩
      clear H
      rintro j w ⟨hj, H⟩
      dsimp only at hj H ⊢
      have S5 := H.slfAt (i := 0) rfl (fun _ => rfl) (by decide)
      have hl5 := S5.len
      rw [mix_len] at hl5
      by_cases hlt2 : j < U.length
      rotate_left
      · ((repeat ((conv => whnf); first | refine an ?_ | ((first | refine H.nwD ?_ | refine H.nw ?_); clear H; intro w _ H) | refine H.ce ?_ | refine H.db ?_ | refine ea ?_ | refine ol ?_ | (refine H.st ?_; (conv => whnf); clear H; intro w H) | refine cT ?_ | refine cF ?_ | refine cN ?_ | refine cM ?_ | refine H.lw ?_ | refine H.ll ?_)); (conv => whnf))
        refine ⟨r5, rfl, ?_⟩
        have : mix (isWide 0) U j = U.map (valOfU (isWide 0)) := by unfold mix; rw [List.take_of_length_le (by simp; omega), List.drop_of_length_le (by simp; omega), List.append_nil]
        rw [this] at H
        exact H
      obtain ⟨q0, e0⟩ := S5.at1 (g := fun n : Int => iv n) (fun _ => rfl) (i := j) (by rw [mix_len]; exact hlt2)
      rw [mix_get hlt2] at e0
      have hv : valOfU (isWide 0) U[j] = ((U[j] : Int) - 128) * 256 := rfl
      have hj2 := hUb j
      rw [List.getElem?_eq_getElem hlt2] at hj2
      have hj2 : U[j] < 65536 := Nat.lt_of_lt_of_le hj2 (by decide)
      ((repeat ((conv => whnf); first | refine an ?_ | ((first | refine H.nwD ?_ | refine H.nw ?_); clear H; intro w _ H) | refine H.ce ?_ | refine H.db ?_ | refine ea ?_ | refine ol ?_ | (refine H.st ?_; (conv => whnf); clear H; intro w H) | refine cT ?_ | refine cF ?_ | refine cN ?_ | refine cM ?_ | refine H.lw ?_ | refine H.ll ?_)); (conv => whnf))
      refine Rel.stRow (i := 0) H rfl j (by omega) rfl rfl ?_
      clear H
      intro w H
      rw [itC_set, ← hv, mix_set hlt2] at H
      ((repeat ((conv => whnf); first | refine an ?_ | ((first | refine H.nwD ?_ | refine H.nw ?_); clear H; intro w _ H) | refine H.ce ?_ | refine H.db ?_ | refine ea ?_ | refine ol ?_ | (refine H.st ?_; (conv => whnf); clear H; intro w H) | refine cT ?_ | refine cF ?_ | refine cN ?_ | refine cM ?_ | refine H.lw ?_ | refine H.ll ?_)); (conv => whnf))
      exact ⟨(by repeat (first | exact trivial | refine ⟨rfl, ?_⟩)), j + 1, (by repeat (first | exact trivial | refine ⟨rfl, ?_⟩)), ⟨by omega, H⟩, by omega⟩
    have hw : isWide 0 = false := rfl
    have hd : isDiff 0 = false := rfl
    have hsucc := fun r h => unDiff_take (df := isDiff 0) (ch := ch) (full := fullOf (isWide 0)) (l := rawU (isWide 0) l) (k := k) (r := r) h
    have hUl : (unDiff (isDiff 0) ch (fullOf (isWide 0)) ((rawU (isWide 0) l).take k)).length = k := by rw [unDiff_len, List.length_take]; omega
    have hUb : ∀ i : Nat, (unDiff (isDiff 0) ch (fullOf (isWide 0)) ((rawU (isWide 0) l).take k))[i]?.getD 0 < fullOf (isWide 0) := fun i => unDiff_lt (fun r hr => rawU_lt _ _ r (List.mem_of_mem_take hr)) (by decide) i
    obtain ⟨U, hU⟩ : ∃ U, U = unDiff (isDiff 0) ch (fullOf (isWide 0)) ((rawU (isWide 0) l).take k) := ⟨_, rfl⟩
    rw [← hU] at hUl H
    simp only [← hU] at hsucc hUb
    have hl5 := (H.slfAt (i := 0) rfl (fun _ => rfl) (by decide)).len
    simp only [hw, hd] at hrl hsucc hUb H hk hlt ⊢
    rw [if_neg (by simp)] at hrl
    have hsucc := hsucc _ (rawU_byte (by omega))
    obtain ⟨p0, d0⟩ := hs.cell8 (i := k) (by omega)
    have h256 : at8 l k < 256 := UInt8.toNat_lt _
    simp only [Nat.reduceMod, Nat.zero_mod, Nat.zero_add, Nat.mul_one]
    ((repeat ((conv => whnf); first | refine an ?_ | ((first | refine H.nwD ?_ | refine H.nw ?_); clear H; intro w _ H) | refine H.ce ?_ | refine H.db ?_ | refine ea ?_ | refine ol ?_ | (refine H.st ?_; (conv => whnf); clear H; intro w H) | refine cT ?_ | refine cF ?_ | refine cN ?_ | refine cM ?_ | refine H.lw ?_ | refine H.ll ?_)); (conv => whnf))
    rw [if_neg (by simp)] at hsucc
    ((repeat ((conv => whnf); first | refine an ?_ | ((first | refine H.nwD ?_ | refine H.nw ?_); clear H; intro w _ H) | refine H.ce ?_ | refine H.db ?_ | refine ea ?_ | refine ol ?_ | (refine H.st ?_; (conv => whnf); clear H; intro w H) | refine cT ?_ | refine cF ?_ | refine cN ?_ | refine cM ?_ | refine H.lw ?_ | refine H.ll ?_)); (conv => whnf))
    refine Rel.app1_0 (f := itN) (l := U) (x := at8 l k) tabOk rfl rfl rfl rfl rfl (by decide) (fun _ => rfl) (List.all_eq_true.1 rfl) H (by simp; omega) (by omega) ?_
    clear H
    intro rn5 w H
    ((repeat ((conv => whnf); first | refine an ?_ | ((first | refine H.nwD ?_ | refine H.nw ?_); clear H; intro w _ H) | refine H.ce ?_ | refine H.db ?_ | refine ea ?_ | refine ol ?_ | (refine H.st ?_; (conv => whnf); clear H; intro w H) | refine cT ?_ | refine cF ?_ | refine cN ?_ | refine cM ?_ | refine H.lw ?_ | refine H.ll ?_)); (conv => whnf))
    refine ⟨(by repeat (first | exact trivial | refine ⟨rfl, ?_⟩)), (k + 1, rn5), ⟨rfl, congrArg (fun z => some (Value.int .i64 z)) (by simp only [Nat.reduceMod, Nat.reduceAdd]; omega), trivial⟩, ⟨by dsimp only; omega, ?_⟩, by dsimp only; omega⟩
    dsimp only
    have hsx := hsucc
    try simp only [f256, f65] at hsx
    try simp only [f256, f65]
    rw [hsx]
    exact H.sx
  · replace H := H.rowNil 3 1
    ((repeat ((conv => whnf); first | refine an ?_ | ((first | refine H.nwD ?_ | refine H.nw ?_); clear H; intro w _ H) | refine H.ce ?_ | refine H.db ?_ | refine ea ?_ | refine ol ?_ | (refine H.st ?_; (conv => whnf); clear H; intro w H) | refine cT ?_ | refine cF ?_ | refine cN ?_ | refine cM ?_ | refine H.lw ?_ | refine H.ll ?_)); (conv => whnf))
    refine loop_inv (S := Nat × Sl) tabOk [0, 1, 2, 6, 7, 8, 13, 18, 70, 74, 88] (fun k => [(9, k.2.v), (10, iv ((k.1 * (1 % 2 + 1) : Nat) : Int))]) (fun k w' => k.1 ≤ (rawU (isWide 1) l).length ∧ Rel W V [.row k.2 3 1 ((unDiff (isDiff 1) ch (fullOf (isWide 1)) ((rawU (isWide 1) l).take k.1)).flatMap itN)] V w') (fun k _ => (rawU (isWide 1) l).length - k.1) (0, ⟨none, 0, 0⟩) ?_
    (conv => whnf)
    refine ⟨(by repeat (first | exact trivial | refine ⟨rfl, ?_⟩)), ⟨by omega, H⟩, ?_⟩
    clear H
    rintro ⟨k, r5⟩ w ⟨hk, H⟩
    dsimp only at hk H ⊢
    have hrl := rawU_len (isWide 1) l
    by_cases hlt : k < (rawU (isWide 1) l).length
    rotate_left
    · rw [if_pos (by decide)] at hrl
      simp only [Nat.reduceMod, Nat.reduceAdd] at hrl ⊢
      rw [List.take_of_length_le (by omega)] at H
      obtain ⟨U, hU⟩ : ∃ U, U = unDiff (isDiff 1) ch (fullOf (isWide 1)) (rawU (isWide 1) l) := ⟨_, rfl⟩
      rw [show sndVals l 1 ch = U.map (valOfU (isWide 1)) by rw [hU]; rfl]
      rw [← hU] at H
      have hUl : U.length ≤ 1000000 := by rw [hU, unDiff_len]; omega
      have hUb : ∀ i : Nat, U[i]?.getD 0 < fullOf (isWide 1) := by rw [hU]; exact fun i => unDiff_lt (rawU_lt _ _) (by decide) i
      clear hU
      ((repeat ((conv => whnf); first | refine an ?_ | ((first | refine H.nwD ?_ | refine H.nw ?_); clear H; intro w _ H) | refine H.ce ?_ | refine H.db ?_ | refine ea ?_ | refine ol ?_ | (refine H.st ?_; (conv => whnf); clear H; intro w H) | refine cT ?_ | refine cF ?_ | refine cN ?_ | refine cM ?_ | refine H.lw ?_ | refine H.ll ?_)); (conv => whnf))
      rw [itN_itC] at H
      replace H : Rel W V [.row r5 3 1 ((mix (isWide 1) U 0).flatMap itC)] V w := H
      refine loop_inv (S := Nat) tabOk [0, 1, 2, 6, 7, 8, 9, 10, 11, 12, 18, 24, 34, 52] (fun j => [(13, iv j)]) (fun j w' => j ≤ U.length ∧ Rel W V [.row r5 3 1 ((mix (isWide 1) U j).flatMap itC)] V w') (fun j _ => U.length - j) 0 ?_
      (conv => whnf)
      refine ⟨(by repeat (first | exact trivial | refine ⟨rfl, ?_⟩)), ⟨by omega, H⟩, ?_⟩
      clear H
      rintro j w ⟨hj, H⟩
      dsimp only at hj H ⊢
      have S5 := H.slfAt (i := 0) rfl (fun _ => rfl) (by decide)
      have hl5 := S5.len
      rw [mix_len] at hl5
      by_cases hlt2 : j < U.length
      rotate_left
      · ((repeat ((conv => whnf); first | refine an ?_ | ((first | refine H.nwD ?_ | refine H.nw ?_); clear H; intro w _ H) | refine H.ce ?_ | refine H.db ?_ | refine ea ?_ | refine ol ?_ | (refine H.st ?_; (conv => whnf); clear H; intro w H) | refine cT ?_ | refine cF ?_ | refine cN ?_ | refine cM ?_ | refine H.lw ?_ | refine H.ll ?_)); (conv => whnf))
        refine ⟨r5, rfl, ?_⟩
        have : mix (isWide 1) U j = U.map (valOfU (isWide 1)) := by unfold mix; rw [List.take_of_length_le (by simp; omega), List.drop_of_length_le (by simp; omega), List.append_nil]
        rw [this] at H
        exact H
      obtain ⟨q0, e0⟩ := S5.at1 (g := fun n : Int => iv n) (fun _ => rfl) (i := j) (by rw [mix_len]; exact hlt2)
      rw [mix_get hlt2] at e0
      by_cases h32 : 32768 ≤ U[j]
      · have hv : valOfU (isWide 1) U[j] = (U[j] : Int) - 65536 := if_pos h32
        have hj2 := hUb j
        rw [List.getElem?_eq_getElem hlt2] at hj2
        have hj2 : U[j] < 65536 := Nat.lt_of_lt_of_le hj2 (by decide)
        ((repeat ((conv => whnf); first | refine an ?_ | ((first | refine H.nwD ?_ | refine H.nw ?_); clear H; intro w _ H) | refine H.ce ?_ | refine H.db ?_ | refine ea ?_ | refine ol ?_ | (refine H.st ?_; (conv => whnf); clear H; intro w H) | refine cT ?_ | refine cF ?_ | refine cN ?_ | refine cM ?_ | refine H.lw ?_ | refine H.ll ?_)); (conv => whnf))
        refine Rel.stRow (i := 0) H rfl j (by omega) rfl rfl ?_
        clear H
        intro w H
        rw [itC_set, ← hv, mix_set hlt2] at H
        ((repeat ((conv => whnf); first | refine an ?_ | ((first | refine H.nwD ?_ | refine H.nw ?_); clear H; intro w _ H) | refine H.ce ?_ | refine H.db ?_ | refine ea ?_ | refine ol ?_ | (refine H.st ?_; (conv => whnf); clear H; intro w H) | refine cT ?_ | refine cF ?_ | refine cN ?_ | refine cM ?_ | refine H.lw ?_ | refine H.ll ?_)); (conv => whnf))
        exact ⟨(by repeat (first | exact trivial | refine ⟨rfl, ?_⟩)), j + 1, (by repeat (first | exact trivial | refine ⟨rfl, ?_⟩)), ⟨by omega, H⟩, by omega⟩
      · have hv : valOfU (isWide 1) U[j] = (U[j] : Int) := if_neg h32
        rw [mix_same hlt2 hv] at H
        ((repeat ((conv => whnf); first | refine an ?_ | ((first | refine H.nwD ?_ | refine H.nw ?_); clear H; intro w _ H) | refine H.ce ?_ | refine H.db ?_ | refine ea ?_ | refine ol ?_ | (refine H.st ?_; (conv => whnf); clear H; intro w H) | refine cT ?_ | refine cF ?_ | refine cN ?_ | refine cM ?_ | refine H.lw ?_ | refine H.ll ?_)); (conv => whnf))
        exact ⟨(by repeat (first | exact trivial | refine ⟨rfl, ?_⟩)), j + 1, (by repeat (first | exact trivial | refine ⟨rfl, ?_⟩)), ⟨by omega, H⟩, by omega⟩
    have hw : isWide 1 = true := rfl
    have hd : isDiff 1 = false := rfl
    have hsucc := fun r h => unDiff_take (df := isDiff 1) (ch := ch) (full := fullOf (isWide 1)) (l := rawU (isWide 1) l) (k := k) (r := r) h
    have hUl : (unDiff (isDiff 1) ch (fullOf (isWide 1)) ((rawU (isWide 1) l).take k)).length = k := by rw [unDiff_len, List.length_take]; omega
    have hUb : ∀ i : Nat, (unDiff (isDiff 1) ch (fullOf (isWide 1)) ((rawU (isWide 1) l).take k))[i]?.getD 0 < fullOf (isWide 1) := fun i => unDiff_lt (fun r hr => rawU_lt _ _ r (List.mem_of_mem_take hr)) (by decide) i
    obtain ⟨U, hU⟩ : ∃ U, U = unDiff (isDiff 1) ch (fullOf (isWide 1)) ((rawU (isWide 1) l).take k) := ⟨_, rfl⟩
    rw [← hU] at hUl H
    simp only [← hU] at hsucc hUb
    have hl5 := (H.slfAt (i := 0) rfl (fun _ => rfl) (by decide)).len
    simp only [hw, hd] at hrl hsucc hUb H hk hlt ⊢
    rw [if_pos (by simp)] at hrl
    obtain ⟨u, hu0⟩ : ∃ u, u = at8 l (k * 2) + 256 * at8 l (k * 2 + 1) := ⟨_, rfl⟩
    have hsucc := hsucc u (by rw [rawU_wide (by omega), Nat.mul_comm 2 k, hu0])
    obtain ⟨p0, d0⟩ := hs.cell8 (i := k * 2) (by omega)
    obtain ⟨p1, d1⟩ := hs.cell8 (i := k * 2 + 1) (by omega)
    have h256 : at8 l (k * 2) < 256 := UInt8.toNat_lt _
    have h257 : at8 l (k * 2 + 1) < 256 := UInt8.toNat_lt _
    have hu65 : u < 65536 := by omega
    have eu : ((at8 l (k * 2) : Nat) : Int) + 256 * ((at8 l (k * 2 + 1) : Nat) : Int) = (u : Int) := by omega
    simp only [Nat.reduceMod, Nat.reduceAdd]
    ((repeat ((conv => whnf); first | refine an ?_ | ((first | refine H.nwD ?_ | refine H.nw ?_); clear H; intro w _ H) | refine H.ce ?_ | refine H.db ?_ | refine ea ?_ | refine ol ?_ | (refine H.st ?_; (conv => whnf); clear H; intro w H) | refine cT ?_ | refine cF ?_ | refine cN ?_ | refine cM ?_ | refine H.lw ?_ | refine H.ll ?_)); (conv => whnf))
    rw [if_neg (by simp)] at hsucc
    try rw [show (((k * 2 : Nat) : Int) + 1) = ((k * 2 + 1 : Nat) : Int) by omega]
    ((repeat ((conv => whnf); first | refine an ?_ | ((first | refine H.nwD ?_ | refine H.nw ?_); clear H; intro w _ H) | refine H.ce ?_ | refine H.db ?_ | refine ea ?_ | refine ol ?_ | (refine H.st ?_; (conv => whnf); clear H; intro w H) | refine cT ?_ | refine cF ?_ | refine cN ?_ | refine cM ?_ | refine H.lw ?_ | refine H.ll ?_)); (conv => whnf))
    try rw [eu] at H
    rw [eu]
    ((repeat ((conv => whnf); first | refine an ?_ | ((first | refine H.nwD ?_ | refine H.nw ?_); clear H; intro w _ H) | refine H.ce ?_ | refine H.db ?_ | refine ea ?_ | refine ol ?_ | (refine H.st ?_; (conv => whnf); clear H; intro w H) | refine cT ?_ | refine cF ?_ | refine cN ?_ | refine cM ?_ | refine H.lw ?_ | refine H.ll ?_)); (conv => whnf))
    refine Rel.app1_0 (f := itN) (l := U) (x := u) tabOk rfl rfl rfl rfl rfl (by decide) (fun _ => rfl) (List.all_eq_true.1 rfl) H (by simp; omega) (by omega) ?_
    clear H
    intro rn5 w H
    ((repeat ((conv => whnf); first | refine an ?_ | ((first | refine H.nwD ?_ | refine H.nw ?_); clear H; intro w _ H) | refine H.ce ?_ | refine H.db ?_ | refine ea ?_ | refine ol ?_ | (refine H.st ?_; (conv => whnf); clear H; intro w H) | refine cT ?_ | refine cF ?_ | refine cN ?_ | refine cM ?_ | refine H.lw ?_ | refine H.ll ?_)); (conv => whnf))
    refine ⟨(by repeat (first | exact trivial | refine ⟨rfl, ?_⟩)), (k + 1, rn5), ⟨rfl, congrArg (fun z => some (Value.int .i64 z)) (by simp only [Nat.reduceMod, Nat.reduceAdd]; omega), trivial⟩, ⟨by dsimp only; omega, ?_⟩, by dsimp only; omega⟩
    dsimp only
    have hsx := hsucc
    try simp only [f256, f65] at hsx
    try simp only [f256, f65]
    rw [hsx]
    exact H.sx
  · replace H := H.rowNil 3 1
    ((repeat ((conv => whnf); first | refine an ?_ | ((first | refine H.nwD ?_ | refine H.nw ?_); clear H; intro w _ H) | refine H.ce ?_ | refine H.db ?_ | refine ea ?_ | refine ol ?_ | (refine H.st ?_; (conv => whnf); clear H; intro w H) | refine cT ?_ | refine cF ?_ | refine cN ?_ | refine cM ?_ | refine H.lw ?_ | refine H.ll ?_)); (conv => whnf))
    refine loop_inv (S := Nat × Sl) tabOk [0, 1, 2, 6, 7, 8, 13, 18, 70, 74, 88] (fun k => [(9, k.2.v), (10, iv ((k.1 * (2 % 2 + 1) : Nat) : Int))]) (fun k w' => k.1 ≤ (rawU (isWide 2) l).length ∧ Rel W V [.row k.2 3 1 ((unDiff (isDiff 2) ch (fullOf (isWide 2)) ((rawU (isWide 2) l).take k.1)).flatMap itN)] V w') (fun k _ => (rawU (isWide 2) l).length - k.1) (0, ⟨none, 0, 0⟩) ?_
    (conv => whnf)
    refine ⟨(by repeat (first | exact trivial | refine ⟨rfl, ?_⟩)), ⟨by omega, H⟩, ?_⟩
    clear H
    rintro ⟨k, r5⟩ w ⟨hk, H⟩
    dsimp only at hk H ⊢
    have hrl := rawU_len (isWide 2) l
    by_cases hlt : k < (rawU (isWide 2) l).length
    rotate_left
    · rw [if_neg (by decide)] at hrl
      simp only [Nat.reduceMod, Nat.zero_add, Nat.mul_one]
      rw [List.take_of_length_le (by omega)] at H
      obtain ⟨U, hU⟩ : ∃ U, U = unDiff (isDiff 2) ch (fullOf (isWide 2)) (rawU (isWide 2) l) := ⟨_, rfl⟩
      rw [show sndVals l 2 ch = U.map (valOfU (isWide 2)) by rw [hU]; rfl]
      rw [← hU] at H
      have hUl : U.length ≤ 1000000 := by rw [hU, unDiff_len]; omega
      have hUb : ∀ i : Nat, U[i]?.getD 0 < fullOf (isWide 2) := by rw [hU]; exact fun i => unDiff_lt (rawU_lt _ _) (by decide) i
      clear hU
      ((repeat ((conv => whnf); first | refine an ?_ | ((first | refine H.nwD ?_ | refine H.nw ?_); clear H; intro w _ H) | refine H.ce ?_ | refine H.db ?_ | refine ea ?_ | refine ol ?_ | (refine H.st ?_; (conv => whnf); clear H; intro w H) | refine cT ?_ | refine cF ?_ | refine cN ?_ | refine cM ?_ | refine H.lw ?_ | refine H.ll ?_)); (conv => whnf))
      rw [itN_itC] at H
      replace H : Rel W V [.row r5 3 1 ((mix (isWide 2) U 0).flatMap itC)] V w := H
      refine loop_inv (S := Nat) tabOk [0, 1, 2, 6, 7, 8, 9, 10, 11, 12, 18, 24, 34, 52] (fun j => [(13, iv j)]) (fun j w' => j ≤ U.length ∧ Rel W V [.row r5 3 1 ((mix (isWide 2) U j).flatMap itC)] V w') (fun j _ => U.length - j) 0 ?_
      (conv => whnf)
      refine ⟨(by repeat (first | exact trivial | refine ⟨rfl, ?_⟩)), ⟨by omega, H⟩, ?_⟩
      clear H
      rintro j w ⟨hj, H⟩
      dsimp only at hj H ⊢
      have S5 := H.slfAt (i := 0) rfl (fun _ => rfl) (by decide)
      have hl5 := S5.len
      rw [mix_len] at hl5
      by_cases hlt2 : j < U.length
      rotate_left
      · ((repeat ((conv => whnf); first | refine an ?_ | ((first | refine H.nwD ?_ | refine H.nw ?_); clear H; intro w _ H) | refine H.ce ?_ | refine H.db ?_ | refine ea ?_ | refine ol ?_ | (refine H.st ?_; (conv => whnf); clear H; intro w H) | refine cT ?_ | refine cF ?_ | refine cN ?_ | refine cM ?_ | refine H.lw ?_ | refine H.ll ?_)); (conv => whnf))
        refine ⟨r5, rfl, ?_⟩
        have : mix (isWide 2) U j = U.map (valOfU (isWide 2)) := by unfold mix; rw [List.take_of_length_le (by simp; omega), List.drop_of_length_le (by simp; omega), List.append_nil]
        rw [this] at H
        exact H
      obtain ⟨q0, e0⟩ := S5.at1 (g := fun n : Int => iv n) (fun _ => rfl) (i := j) (by rw [mix_len]; exact hlt2)
      rw [mix_get hlt2] at e0
      have hv : valOfU (isWide 2) U[j] = ((U[j] : Int) - 128) * 256 := rfl
      have hj2 := hUb j
      rw [List.getElem?_eq_getElem hlt2] at hj2
      have hj2 : U[j] < 65536 := Nat.lt_of_lt_of_le hj2 (by decide)
      ((repeat ((conv => whnf); first | refine an ?_ | ((first | refine H.nwD ?_ | refine H.nw ?_); clear H; intro w _ H) | refine H.ce ?_ | refine H.db ?_ | refine ea ?_ | refine ol ?_ | (refine H.st ?_; (conv => whnf); clear H; intro w H) | refine cT ?_ | refine cF ?_ | refine cN ?_ | refine cM ?_ | refine H.lw ?_ | refine H.ll ?_)); (conv => whnf))
      refine Rel.stRow (i := 0) H rfl j (by omega) rfl rfl ?_
      clear H
      intro w H
      rw [itC_set, ← hv, mix_set hlt2] at H
      ((repeat ((conv => whnf); first | refine an ?_ | ((first | refine H.nwD ?_ | refine H.nw ?_); clear H; intro w _ H) | refine H.ce ?_ | refine H.db ?_ | refine ea ?_ | refine ol ?_ | (refine H.st ?_; (conv => whnf); clear H; intro w H) | refine cT ?_ | refine cF ?_ | refine cN ?_ | refine cM ?_ | refine H.lw ?_ | refine H.ll ?_)); (conv => whnf))
      exact ⟨(by repeat (first | exact trivial | refine ⟨rfl, ?_⟩)), j + 1, (by repeat (first | exact trivial | refine ⟨rfl, ?_⟩)), ⟨by omega, H⟩, by omega⟩
    have hw : isWide 2 = false := rfl
    have hd : isDiff 2 = true := rfl
    have hsucc := fun r h => unDiff_take (df := isDiff 2) (ch := ch) (full := fullOf (isWide 2)) (l := rawU (isWide 2) l) (k := k) (r := r) h
    have hUl : (unDiff (isDiff 2) ch (fullOf (isWide 2)) ((rawU (isWide 2) l).take k)).length = k := by rw [unDiff_len, List.length_take]; omega
    have hUb : ∀ i : Nat, (unDiff (isDiff 2) ch (fullOf (isWide 2)) ((rawU (isWide 2) l).take k))[i]?.getD 0 < fullOf (isWide 2) := fun i => unDiff_lt (fun r hr => rawU_lt _ _ r (List.mem_of_mem_take hr)) (by decide) i
    obtain ⟨U, hU⟩ : ∃ U, U = unDiff (isDiff 2) ch (fullOf (isWide 2)) ((rawU (isWide 2) l).take k) := ⟨_, rfl⟩
    rw [← hU] at hUl H
    simp only [← hU] at hsucc hUb
    have hl5 := (H.slfAt (i := 0) rfl (fun _ => rfl) (by decide)).len
    simp only [hw, hd] at hrl hsucc hUb H hk hlt ⊢
    rw [if_neg (by simp)] at hrl
    have hsucc := hsucc _ (rawU_byte (by omega))
    obtain ⟨p0, d0⟩ := hs.cell8 (i := k) (by omega)
    have h256 : at8 l k < 256 := UInt8.toNat_lt _
    simp only [Nat.reduceMod, Nat.zero_mod, Nat.zero_add, Nat.mul_one]
    ((repeat ((conv => whnf); first | refine an ?_ | ((first | refine H.nwD ?_ | refine H.nw ?_); clear H; intro w _ H) | refine H.ce ?_ | refine H.db ?_ | refine ea ?_ | refine ol ?_ | (refine H.st ?_; (conv => whnf); clear H; intro w H) | refine cT ?_ | refine cF ?_ | refine cN ?_ | refine cM ?_ | refine H.lw ?_ | refine H.ll ?_)); (conv => whnf))
    by_cases hdf : ch ≤ k
    · rw [if_pos (by simp [hdf])] at hsucc
      rw [f256] at hsucc
      have S5 := H.slfAt (i := 0) rfl (fun _ => rfl) (by decide)
      obtain ⟨q0, e0⟩ := S5.at1 (g := fun n : Nat => iv (n : Int)) (fun _ => rfl) (i := k - ch) (by omega)
      have ej : ((r5.len : Int) - (ch : Int)) = ((k - ch : Nat) : Int) := by omega
      obtain ⟨u, hu⟩ : ∃ u, u = (at8 l k + U[k - ch]?.getD 0) % 256 := ⟨_, rfl⟩
      have hbU := hUb (k - ch)
      simp only [f256, f65] at hbU
      rw [← hu] at hsucc
      have hx0 : U[k - ch]?.getD 0 = U[k - ch] := by rw [List.getElem?_eq_getElem (by omega)]; rfl
      rw [hx0] at hbU hu
      have ez : (((at8 l k : Nat) : Int) + ((U[k - ch] : Nat) : Int)) % 256 = ((u : Nat) : Int) := by omega
      ((repeat ((conv => whnf); first | refine an ?_ | ((first | refine H.nwD ?_ | refine H.nw ?_); clear H; intro w _ H) | refine H.ce ?_ | refine H.db ?_ | refine ea ?_ | refine ol ?_ | (refine H.st ?_; (conv => whnf); clear H; intro w H) | refine cT ?_ | refine cF ?_ | refine cN ?_ | refine cM ?_ | refine H.lw ?_ | refine H.ll ?_)); (conv => whnf))
      rw [ej]
      ((repeat ((conv => whnf); first | refine an ?_ | ((first | refine H.nwD ?_ | refine H.nw ?_); clear H; intro w _ H) | refine H.ce ?_ | refine H.db ?_ | refine ea ?_ | refine ol ?_ | (refine H.st ?_; (conv => whnf); clear H; intro w H) | refine cT ?_ | refine cF ?_ | refine cN ?_ | refine cM ?_ | refine H.lw ?_ | refine H.ll ?_)); (conv => whnf))
      try rw [ez] at H
      rw [ez]
      ((repeat ((conv => whnf); first | refine an ?_ | ((first | refine H.nwD ?_ | refine H.nw ?_); clear H; intro w _ H) | refine H.ce ?_ | refine H.db ?_ | refine ea ?_ | refine ol ?_ | (refine H.st ?_; (conv => whnf); clear H; intro w H) | refine cT ?_ | refine cF ?_ | refine cN ?_ | refine cM ?_ | refine H.lw ?_ | refine H.ll ?_)); (conv => whnf))
      refine Rel.app1_0 (f := itN) (l := U) (x := u) tabOk rfl rfl rfl rfl rfl (by decide) (fun _ => rfl) (List.all_eq_true.1 rfl) H (by simp; omega) (by omega) ?_
      clear H
      intro rn5 w H
      ((repeat ((conv => whnf); first | refine an ?_ | ((first | refine H.nwD ?_ | refine H.nw ?_); clear H; intro w _ H) | refine H.ce ?_ | refine H.db ?_ | refine ea ?_ | refine ol ?_ | (refine H.st ?_; (conv => whnf); clear H; intro w H) | refine cT ?_ | refine cF ?_ | refine cN ?_ | refine cM ?_ | refine H.lw ?_ | refine H.ll ?_)); (conv => whnf))
      refine ⟨(by repeat (first | exact trivial | refine ⟨rfl, ?_⟩)), (k + 1, rn5), ⟨rfl, congrArg (fun z => some (Value.int .i64 z)) (by simp only [Nat.reduceMod, Nat.reduceAdd]; omega), trivial⟩, ⟨by dsimp only; omega, ?_⟩, by dsimp only; omega⟩
      dsimp only
      have hsx := hsucc
      try simp only [f256, f65] at hsx
      try simp only [f256, f65]
      rw [hsx]
      exact H.sx
    · rw [if_neg (fun h => hdf h.2)] at hsucc
      ((repeat ((conv => whnf); first | refine an ?_ | ((first | refine H.nwD ?_ | refine H.nw ?_); clear H; intro w _ H) | refine H.ce ?_ | refine H.db ?_ | refine ea ?_ | refine ol ?_ | (refine H.st ?_; (conv => whnf); clear H; intro w H) | refine cT ?_ | refine cF ?_ | refine cN ?_ | refine cM ?_ | refine H.lw ?_ | refine H.ll ?_)); (conv => whnf))
      refine Rel.app1_0 (f := itN) (l := U) (x := at8 l k) tabOk rfl rfl rfl rfl rfl (by decide) (fun _ => rfl) (List.all_eq_true.1 rfl) H (by simp; omega) (by omega) ?_
      clear H
      intro rn5 w H
      ((repeat ((conv => whnf); first | refine an ?_ | ((first | refine H.nwD ?_ | refine H.nw ?_); clear H; intro w _ H) | refine H.ce ?_ | refine H.db ?_ | refine ea ?_ | refine ol ?_ | (refine H.st ?_; (conv => whnf); clear H; intro w H) | refine cT ?_ | refine cF ?_ | refine cN ?_ | refine cM ?_ | refine H.lw ?_ | refine H.ll ?_)); (conv => whnf))
      refine ⟨(by repeat (first | exact trivial | refine ⟨rfl, ?_⟩)), (k + 1, rn5), ⟨rfl, congrArg (fun z => some (Value.int .i64 z)) (by simp only [Nat.reduceMod, Nat.reduceAdd]; omega), trivial⟩, ⟨by dsimp only; omega, ?_⟩, by dsimp only; omega⟩
      dsimp only
      have hsx := hsucc
      try simp only [f256, f65] at hsx
      try simp only [f256, f65]
      rw [hsx]
      exact H.sx
  · replace H := H.rowNil 3 1
    ((repeat ((conv => whnf); first | refine an ?_ | ((first | refine H.nwD ?_ | refine H.nw ?_); clear H; intro w _ H) | refine H.ce ?_ | refine H.db ?_ | refine ea ?_ | refine ol ?_ | (refine H.st ?_; (conv => whnf); clear H; intro w H) | refine cT ?_ | refine cF ?_ | refine cN ?_ | refine cM ?_ | refine H.lw ?_ | refine H.ll ?_)); (conv => whnf))
    refine loop_inv (S := Nat × Sl) tabOk [0, 1, 2, 6, 7, 8, 13, 18, 70, 74, 88] (fun k => [(9, k.2.v), (10, iv ((k.1 * (3 % 2 + 1) : Nat) : Int))]) (fun k w' => k.1 ≤ (rawU (isWide 3) l).length ∧ Rel W V [.row k.2 3 1 ((unDiff (isDiff 3) ch (fullOf (isWide 3)) ((rawU (isWide 3) l).take k.1)).flatMap itN)] V w') (fun k _ => (rawU (isWide 3) l).length - k.1) (0, ⟨none, 0, 0⟩) ?_
    (conv => whnf)
    refine ⟨(by repeat (first | exact trivial | refine ⟨rfl, ?_⟩)), ⟨by omega, H⟩, ?_⟩
    clear H
    rintro ⟨k, r5⟩ w ⟨hk, H⟩
    dsimp only at hk H ⊢
    have hrl := rawU_len (isWide 3) l
    by_cases hlt : k < (rawU (isWide 3) l).length
    rotate_left
    · rw [if_pos (by decide)] at hrl
      simp only [Nat.reduceMod, Nat.reduceAdd] at hrl ⊢
      rw [List.take_of_length_le (by omega)] at H
      obtain ⟨U, hU⟩ : ∃ U, U = unDiff (isDiff 3) ch (fullOf (isWide 3)) (rawU (isWide 3) l) := ⟨_, rfl⟩
      rw [show sndVals l 3 ch = U.map (valOfU (isWide 3)) by rw [hU]; rfl]
      rw [← hU] at H
      have hUl : U.length ≤ 1000000 := by rw [hU, unDiff_len]; omega
      have hUb : ∀ i : Nat, U[i]?.getD 0 < fullOf (isWide 3) := by rw [hU]; exact fun i => unDiff_lt (rawU_lt _ _) (by decide) i
      clear hU
      ((repeat ((conv => whnf); first | refine an ?_ | ((first | refine H.nwD ?_ | refine H.nw ?_); clear H; intro w _ H) | refine H.ce ?_ | refine H.db ?_ | refine ea ?_ | refine ol ?_ | (refine H.st ?_; (conv => whnf); clear H; intro w H) | refine cT ?_ | refine cF ?_ | refine cN ?_ | refine cM ?_ | refine H.lw ?_ | refine H.ll ?_)); (conv => whnf))
      rw [itN_itC] at H
      replace H : Rel W V [.row r5 3 1 ((mix (isWide 3) U 0).flatMap itC)] V w := H
      refine loop_inv (S := Nat) tabOk [0, 1, 2, 6, 7, 8, 9, 10, 11, 12, 18, 24, 34, 52] (fun j => [(13, iv j)]) (fun j w' => j ≤ U.length ∧ Rel W V [.row r5 3 1 ((mix (isWide 3) U j).flatMap itC)] V w') (fun j _ => U.length - j) 0 ?_
      (conv => whnf)
      refine ⟨(by repeat (first | exact trivial | refine ⟨rfl, ?_⟩)), ⟨by omega, H⟩, ?_⟩
      clear H
      rintro j w ⟨hj, H⟩
      dsimp only at hj H ⊢
      have S5 := H.slfAt (i := 0) rfl (fun _ => rfl) (by decide)
      have hl5 := S5.len
      rw [mix_len] at hl5
      by_cases hlt2 : j < U.length
      rotate_left
      · ((repeat ((conv => whnf); first | refine an ?_ | ((first | refine H.nwD ?_ | refine H.nw ?_); clear H; intro w _ H) | refine H.ce ?_ | refine H.db ?_ | refine ea ?_ | refine ol ?_ | (refine H.st ?_; (conv => whnf); clear H; intro w H) | refine cT ?_ | refine cF ?_ | refine cN ?_ | refine cM ?_ | refine H.lw ?_ | refine H.ll ?_)); (conv => whnf))
        refine ⟨r5, rfl, ?_⟩
        have : mix (isWide 3) U j = U.map (valOfU (isWide 3)) := by unfold mix; rw [List.take_of_length_le (by simp; omega), List.drop_of_length_le (by simp; omega), List.append_nil]
        rw [this] at H
        exact H
      obtain ⟨q0, e0⟩ := S5.at1 (g := fun n : Int => iv n) (fun _ => rfl) (i := j) (by rw [mix_len]; exact hlt2)
      rw [mix_get hlt2] at e0
      by_cases h32 : 32768 ≤ U[j]
      · have hv : valOfU (isWide 3) U[j] = (U[j] : Int) - 65536 := if_pos h32
        have hj2 := hUb j
        rw [List.getElem?_eq_getElem hlt2] at hj2
        have hj2 : U[j] < 65536 := Nat.lt_of_lt_of_le hj2 (by decide)
        ((repeat ((conv => whnf); first | refine an ?_ | ((first | refine H.nwD ?_ | refine H.nw ?_); clear H; intro w _ H) | refine H.ce ?_ | refine H.db ?_ | refine ea ?_ | refine ol ?_ | (refine H.st ?_; (conv => whnf); clear H; intro w H) | refine cT ?_ | refine cF ?_ | refine cN ?_ | refine cM ?_ | refine H.lw ?_ | refine H.ll ?_)); (conv => whnf))
        refine Rel.stRow (i := 0) H rfl j (by omega) rfl rfl ?_
        clear H
        intro w H
        rw [itC_set, ← hv, mix_set hlt2] at H
        ((repeat ((conv => whnf); first | refine an ?_ | ((first | refine H.nwD ?_ | refine H.nw ?_); clear H; intro w _ H) | refine H.ce ?_ | refine H.db ?_ | refine ea ?_ | refine ol ?_ | (refine H.st ?_; (conv => whnf); clear H; intro w H) | refine cT ?_ | refine cF ?_ | refine cN ?_ | refine cM ?_ | refine H.lw ?_ | refine H.ll ?_)); (conv => whnf))
        exact ⟨(by repeat (first | exact trivial | refine ⟨rfl, ?_⟩)), j + 1, (by repeat (first | exact trivial | refine ⟨rfl, ?_⟩)), ⟨by omega, H⟩, by omega⟩
      · have hv : valOfU (isWide 3) U[j] = (U[j] : Int) := if_neg h32
        rw [mix_same hlt2 hv] at H
        ((repeat ((conv => whnf); first | refine an ?_ | ((first | refine H.nwD ?_ | refine H.nw ?_); clear H; intro w _ H) | refine H.ce ?_ | refine H.db ?_ | refine ea ?_ | refine ol ?_ | (refine H.st ?_; (conv => whnf); clear H; intro w H) | refine cT ?_ | refine cF ?_ | refine cN ?_ | refine cM ?_ | refine H.lw ?_ | refine H.ll ?_)); (conv => whnf))
        exact ⟨(by repeat (first | exact trivial | refine ⟨rfl, ?_⟩)), j + 1, (by repeat (first | exact trivial | refine ⟨rfl, ?_⟩)), ⟨by omega, H⟩, by omega⟩
    have hw : isWide 3 = true := rfl
    have hd : isDiff 3 = true := rfl
    have hsucc := fun r h => unDiff_take (df := isDiff 3) (ch := ch) (full := fullOf (isWide 3)) (l := rawU (isWide 3) l) (k := k) (r := r) h
    have hUl : (unDiff (isDiff 3) ch (fullOf (isWide 3)) ((rawU (isWide 3) l).take k)).length = k := by rw [unDiff_len, List.length_take]; omega
    have hUb : ∀ i : Nat, (unDiff (isDiff 3) ch (fullOf (isWide 3)) ((rawU (isWide 3) l).take k))[i]?.getD 0 < fullOf (isWide 3) := fun i => unDiff_lt (fun r hr => rawU_lt _ _ r (List.mem_of_mem_take hr)) (by decide) i
    obtain ⟨U, hU⟩ : ∃ U, U = unDiff (isDiff 3) ch (fullOf (isWide 3)) ((rawU (isWide 3) l).take k) := ⟨_, rfl⟩
    rw [← hU] at hUl H
    simp only [← hU] at hsucc hUb
    have hl5 := (H.slfAt (i := 0) rfl (fun _ => rfl) (by decide)).len
    simp only [hw, hd] at hrl hsucc hUb H hk hlt ⊢
    rw [if_pos (by simp)] at hrl
    obtain ⟨u, hu0⟩ : ∃ u, u = at8 l (k * 2) + 256 * at8 l (k * 2 + 1) := ⟨_, rfl⟩
    have hsucc := hsucc u (by rw [rawU_wide (by omega), Nat.mul_comm 2 k, hu0])
    obtain ⟨p0, d0⟩ := hs.cell8 (i := k * 2) (by omega)
    obtain ⟨p1, d1⟩ := hs.cell8 (i := k * 2 + 1) (by omega)
    have h256 : at8 l (k * 2) < 256 := UInt8.toNat_lt _
    have h257 : at8 l (k * 2 + 1) < 256 := UInt8.toNat_lt _
    have hu65 : u < 65536 := by omega
    have eu : ((at8 l (k * 2) : Nat) : Int) + 256 * ((at8 l (k * 2 + 1) : Nat) : Int) = (u : Int) := by omega
    simp only [Nat.reduceMod, Nat.reduceAdd]
    ((repeat ((conv => whnf); first | refine an ?_ | ((first | refine H.nwD ?_ | refine H.nw ?_); clear H; intro w _ H) | refine H.ce ?_ | refine H.db ?_ | refine ea ?_ | refine ol ?_ | (refine H.st ?_; (conv => whnf); clear H; intro w H) | refine cT ?_ | refine cF ?_ | refine cN ?_ | refine cM ?_ | refine H.lw ?_ | refine H.ll ?_)); (conv => whnf))
    try rw [show (((k * 2 : Nat) : Int) + 1) = ((k * 2 + 1 : Nat) : Int) by omega]
    ((repeat ((conv => whnf); first | refine an ?_ | ((first | refine H.nwD ?_ | refine H.nw ?_); clear H; intro w _ H) | refine H.ce ?_ | refine H.db ?_ | refine ea ?_ | refine ol ?_ | (refine H.st ?_; (conv => whnf); clear H; intro w H) | refine cT ?_ | refine cF ?_ | refine cN ?_ | refine cM ?_ | refine H.lw ?_ | refine H.ll ?_)); (conv => whnf))
    try rw [eu] at H
    rw [eu]
    by_cases hdf : ch ≤ k
    · rw [if_pos (by simp [hdf])] at hsucc
      rw [f65] at hsucc
      obtain ⟨y, hy⟩ : ∃ y, y = u := ⟨_, rfl⟩
      rw [← hy] at hu65 hsucc ⊢
      clear hy hu0 eu u
      have S5 := H.slfAt (i := 0) rfl (fun _ => rfl) (by decide)
      obtain ⟨q0, e0⟩ := S5.at1 (g := fun n : Nat => iv (n : Int)) (fun _ => rfl) (i := k - ch) (by omega)
      have ej : ((r5.len : Int) - (ch : Int)) = ((k - ch : Nat) : Int) := by omega
      obtain ⟨u, hu⟩ : ∃ u, u = (y + U[k - ch]?.getD 0) % 65536 := ⟨_, rfl⟩
      have hbU := hUb (k - ch)
      simp only [f256, f65] at hbU
      rw [← hu] at hsucc
      have hx0 : U[k - ch]?.getD 0 = U[k - ch] := by rw [List.getElem?_eq_getElem (by omega)]; rfl
      rw [hx0] at hbU hu
      have ez : (((y : Nat) : Int) + ((U[k - ch] : Nat) : Int)) % 65536 = ((u : Nat) : Int) := by omega
      ((repeat ((conv => whnf); first | refine an ?_ | ((first | refine H.nwD ?_ | refine H.nw ?_); clear H; intro w _ H) | refine H.ce ?_ | refine H.db ?_ | refine ea ?_ | refine ol ?_ | (refine H.st ?_; (conv => whnf); clear H; intro w H) | refine cT ?_ | refine cF ?_ | refine cN ?_ | refine cM ?_ | refine H.lw ?_ | refine H.ll ?_)); (conv => whnf))
      rw [ej]
      ((repeat ((conv => whnf); first | refine an ?_ | ((first | refine H.nwD ?_ | refine H.nw ?_); clear H; intro w _ H) | refine H.ce ?_ | refine H.db ?_ | refine ea ?_ | refine ol ?_ | (refine H.st ?_; (conv => whnf); clear H; intro w H) | refine cT ?_ | refine cF ?_ | refine cN ?_ | refine cM ?_ | refine H.lw ?_ | refine H.ll ?_)); (conv => whnf))
      try rw [ez] at H
      rw [ez]
      ((repeat ((conv => whnf); first | refine an ?_ | ((first | refine H.nwD ?_ | refine H.nw ?_); clear H; intro w _ H) | refine H.ce ?_ | refine H.db ?_ | refine ea ?_ | refine ol ?_ | (refine H.st ?_; (conv => whnf); clear H; intro w H) | refine cT ?_ | refine cF ?_ | refine cN ?_ | refine cM ?_ | refine H.lw ?_ | refine H.ll ?_)); (conv => whnf))
      refine Rel.app1_0 (f := itN) (l := U) (x := u) tabOk rfl rfl rfl rfl rfl (by decide) (fun _ => rfl) (List.all_eq_true.1 rfl) H (by simp; omega) (by omega) ?_
      clear H
      intro rn5 w H
      ((repeat ((conv => whnf); first | refine an ?_ | ((first | refine H.nwD ?_ | refine H.nw ?_); clear H; intro w _ H) | refine H.ce ?_ | refine H.db ?_ | refine ea ?_ | refine ol ?_ | (refine H.st ?_; (conv => whnf); clear H; intro w H) | refine cT ?_ | refine cF ?_ | refine cN ?_ | refine cM ?_ | refine H.lw ?_ | refine H.ll ?_)); (conv => whnf))
      refine ⟨(by repeat (first | exact trivial | refine ⟨rfl, ?_⟩)), (k + 1, rn5), ⟨rfl, congrArg (fun z => some (Value.int .i64 z)) (by simp only [Nat.reduceMod, Nat.reduceAdd]; omega), trivial⟩, ⟨by dsimp only; omega, ?_⟩, by dsimp only; omega⟩
      dsimp only
      have hsx := hsucc
      try simp only [f256, f65] at hsx
      try simp only [f256, f65]
      rw [hsx]
      exact H.sx
    · rw [if_neg (fun h => hdf h.2)] at hsucc
      ((repeat ((conv => whnf); first | refine an ?_ | ((first | refine H.nwD ?_ | refine H.nw ?_); clear H; intro w _ H) | refine H.ce ?_ | refine H.db ?_ | refine ea ?_ | refine ol ?_ | (refine H.st ?_; (conv => whnf); clear H; intro w H) | refine cT ?_ | refine cF ?_ | refine cN ?_ | refine cM ?_ | refine H.lw ?_ | refine H.ll ?_)); (conv => whnf))
      refine Rel.app1_0 (f := itN) (l := U) (x := u) tabOk rfl rfl rfl rfl rfl (by decide) (fun _ => rfl) (List.all_eq_true.1 rfl) H (by simp; omega) (by omega) ?_
      clear H
      intro rn5 w H
      ((repeat ((conv => whnf); first | refine an ?_ | ((first | refine H.nwD ?_ | refine H.nw ?_); clear H; intro w _ H) | refine H.ce ?_ | refine H.db ?_ | refine ea ?_ | refine ol ?_ | (refine H.st ?_; (conv => whnf); clear H; intro w H) | refine cT ?_ | refine cF ?_ | refine cN ?_ | refine cM ?_ | refine H.lw ?_ | refine H.ll ?_)); (conv => whnf))
      refine ⟨(by repeat (first | exact trivial | refine ⟨rfl, ?_⟩)), (k + 1, rn5), ⟨rfl, congrArg (fun z => some (Value.int .i64 z)) (by simp only [Nat.reduceMod, Nat.reduceAdd]; omega), trivial⟩, ⟨by dsimp only; omega, ?_⟩, by dsimp only; omega⟩
      dsimp only
      have hsx := hsucc
      try simp only [f256, f65] at hsx
      try simp only [f256, f65]
      rw [hsx]
      exact H.sx
end
end Go.Proofs.Ytjfcpnlacodjjaa
