/-
  Files of trees, the reference: tokenEnd, scan.
-/
import Derived.Test.YtffaffojkfalhaaGreatDoorTreW
import Derived.Test.YtffaffojkfalhaaGreatDoorTreS
namespace Go.Proofs.YtffaffojkfalhaaGreatDoor
open Go Go.RowKit

/-! ### where a token ends -/
def lenE (l : List UInt8) : Option Nat := (strE l).map fun x => x.1.length
theorem lenE_esc {d : UInt8} {r : List UInt8} : lenE (92 :: d :: r) = (lenE r).map (2 + ·) := by
  unfold lenE
  rw [strE, if_pos rfl, Option.map_map, Option.map_map]
  congr 1
  funext x
  simp only [Function.comp, List.length_cons]
  omega
theorem lenE_quo {r : List UInt8} : lenE (34 :: r) = some 1 := by
  cases r with
  | nil => rfl
  | cons d r => unfold lenE; rw [strE, if_neg (by decide), if_pos rfl]; rfl
theorem lenE_one {c : UInt8} (h1 : c ≠ 92) (h2 : c ≠ 34) {r : List UInt8} : lenE (c :: r) = (lenE r).map (1 + ·) := by
  cases r with
  | nil =>
    have : strE [c] = none := by
      unfold strE
      rw [if_neg h1, if_neg h2]
    unfold lenE
    rw [this]
    rfl
  | cons d r =>
    unfold lenE
    rw [strE, if_neg h1, if_neg h2, Option.map_map, Option.map_map]
    congr 1
    funext x
    simp only [Function.comp, List.length_cons]
    omega
theorem lenE_back (l : List UInt8) (h : l.length ≤ 1) (h2 : ∀ c ∈ l, c = 92) : lenE l = none := by
  match l, h with
  | [], _ => rfl
  | [c], _ =>
    have := h2 c (by simp)
    subst this
    rfl
/-- the place behind the token, or -1 -/
def endT (l : List UInt8) (p : Nat) : Int := match tkE (l.drop p) with
  | none => -1
  | some x => ((p + x.1.length : Nat) : Int)
section
variable {V W : World}
set_option maxRecDepth 100000 in
set_option maxHeartbeats 2000000 in
theorem tokenEnd_ref (hV : Sub V W) {s : Sl} {l : List UInt8} (hs : Byt V s l) (hl : l.length ≤ 1000000) {p : Nat} (hp : p < l.length) : Ret Tryz.prog 53 [s.v, iv (p : Int)].toArray W fun v w' => v = iv (endT l p) ∧ Rel W V [] V w' := by
  have H := Rel.start hV
  have hlen := hs.len
  obtain ⟨p0, c0⟩ := hs.at1 (g := bv) (fun _ => rfl) hp
  obtain ⟨c, hc⟩ : ∃ c, c = l[p] := ⟨_, rfl⟩
  have hdr : l.drop p = c :: l.drop (p + 1) := by rw [hc, List.drop_eq_getElem_cons hp]
  rw [← hc] at c0
  have hc8 := c.toNat_lt
  refine cal_of_vc tabOk Tryz.func53 rfl (by kernel_rfl) 107 rfl (by simp) [0, 1, 4, 5, 6, 7, 8, 9, 10, 37, 41, 47, 54, 61, 70, 100, 105] ?_
  by_cases hsg : sgB c = true
  · rcases sgB_cases hsg with hc2 | hc2 | hc2 | hc2 | hc2 | hc2
    all_goals
      rw [hc2] at c0
      (first | (refine H.wg ?_; clear H; intros; rename_i w H; constructor) | refine wk ?_)
      first | exact H.sx | exact ⟨by rw [endT, hdr, tkE_cons, if_pos (by rw [hc2]; decide)]; simp, H.sx⟩
  have n1 : c.toNat ≠ 91 := fun e => hsg (by rw [UInt8.toNat_inj.1 (show c.toNat = (91 : UInt8).toNat from e)]; decide)
  have n2 : c.toNat ≠ 93 := fun e => hsg (by rw [UInt8.toNat_inj.1 (show c.toNat = (93 : UInt8).toNat from e)]; decide)
  have n3 : c.toNat ≠ 123 := fun e => hsg (by rw [UInt8.toNat_inj.1 (show c.toNat = (123 : UInt8).toNat from e)]; decide)
  have n4 : c.toNat ≠ 125 := fun e => hsg (by rw [UInt8.toNat_inj.1 (show c.toNat = (125 : UInt8).toNat from e)]; decide)
  have n5 : c.toNat ≠ 44 := fun e => hsg (by rw [UInt8.toNat_inj.1 (show c.toNat = (44 : UInt8).toNat from e)]; decide)
  have n6 : c.toNat ≠ 58 := fun e => hsg (by rw [UInt8.toNat_inj.1 (show c.toNat = (58 : UInt8).toNat from e)]; decide)
  by_cases h34 : c = 34
  · have eE : endT l p = match lenE (l.drop (p + 1)) with
        | none => -1
        | some n => ((p + 1 + n : Nat) : Int) := by
      rw [endT, hdr, tkE_cons, if_neg hsg, if_pos h34, lenE]
      cases strE (l.drop (p + 1)) with
      | none => rfl
      | some x =>
        simp only [Option.map_some, List.length_cons]
        congr 1
        omega
    rw [eE]
    subst h34
    (first | (refine H.wg ?_; clear H; intros; rename_i w H; constructor) | refine wk ?_)
    refine loop_inv (S := Nat) tabOk [0, 1, 5, 7, 8, 9, 10, 37, 41, 70, 100, 105] (fun i => [(6, iv (i : Int))]) (fun i w' => p + 1 ≤ i ∧ i ≤ l.length + 1 ∧ lenE (l.drop (p + 1)) = (lenE (l.drop i)).map ((i - (p + 1)) + ·) ∧ Rel W V [] V w') (fun i _ => l.length + 1 - i) (p + 1) ?_
    (conv => whnf)
    refine ⟨(by repeat (first | exact trivial | refine ⟨rfl, ?_⟩)), ⟨Nat.le_refl _, by omega, ?_, H.sx⟩, ?_⟩
    · cases lenE (l.drop (p + 1)) with
      | none => rfl
      | some n => simp
    clear H
    rintro i w ⟨hi1, hi2, hle, H⟩
    by_cases hlt : i < l.length
    rotate_left
    · have : lenE (l.drop i) = none := by rw [List.drop_eq_nil_of_le (by omega)]; rfl
      rw [hle, this]
      (first | (refine H.wg ?_; clear H; intros; rename_i w H; constructor) | refine wk ?_)
      first | exact H.sx | exact ⟨rfl, H.sx⟩
    obtain ⟨p1, c1⟩ := hs.at1 (g := bv) (fun _ => rfl) hlt
    obtain ⟨x, hx⟩ : ∃ x, x = l[i] := ⟨_, rfl⟩
    have hdi : l.drop i = x :: l.drop (i + 1) := by rw [hx, List.drop_eq_getElem_cons hlt]
    rw [← hx] at c1
    have hx8 := x.toNat_lt
    by_cases h92 : x = 92
    · subst h92
      have hst : lenE (l.drop i) = (lenE (l.drop (i + 2))).map (2 + ·) := by
        by_cases h2 : i + 1 < l.length
        · rw [hdi, List.drop_eq_getElem_cons h2, lenE_esc]
        · rw [hdi, List.drop_eq_nil_of_le (show l.length ≤ i + 1 by omega), List.drop_eq_nil_of_le (show l.length ≤ i + 2 by omega)]
          rfl
      (first | (refine H.wg ?_; clear H; intros; rename_i w H; constructor) | refine wk ?_)
      refine ⟨(by repeat (first | exact trivial | refine ⟨rfl, ?_⟩)), i + 2, (by repeat (first | exact trivial | refine ⟨rfl, ?_⟩)), ⟨by omega, by omega, ?_, H.sx⟩, by omega⟩
      rw [hle, hst, Option.map_map]
      congr 1
      funext n
      simp only [Function.comp]
      omega
    · have h92' : x.toNat ≠ 92 := fun e => h92 (UInt8.toNat_inj.1 e)
      by_cases h34 : x = 34
      · subst h34
        rw [hle, hdi, lenE_quo]
        (first | (refine H.wg ?_; clear H; intros; rename_i w H; constructor) | refine wk ?_)
        refine ⟨?_, H.sx⟩
        simp only [Option.map_some]
        exact congrArg iv (show ((i : Int) + 1) = ((p + 1 + (i - (p + 1) + 1) : Nat) : Int) by omega)
      · have h34' : x.toNat ≠ 34 := fun e => h34 (UInt8.toNat_inj.1 e)
        (first | (refine H.wg ?_; clear H; intros; rename_i w H; constructor) | refine wk ?_)
        refine ⟨(by repeat (first | exact trivial | refine ⟨rfl, ?_⟩)), i + 1, (by repeat (first | exact trivial | refine ⟨rfl, ?_⟩)), ⟨by omega, by omega, ?_, H.sx⟩, by omega⟩
        rw [hle, hdi, lenE_one h92 h34, Option.map_map]
        congr 1
        funext n
        simp only [Function.comp]
        omega
  have n7 : c.toNat ≠ 34 := fun e => h34 (UInt8.toNat_inj.1 e)
  obtain ⟨wd, hwd⟩ : ∃ wd, wd = azB c := ⟨_, rfl⟩
  have hwd2 : decide ((97 : Int) ≤ (c.toNat : Int) ∧ (c.toNat : Int) ≤ 122) = wd := by
    rw [hwd, Bool.eq_iff_iff]
    simp [azB]
    omega
  have eE : endT l p = if (l.drop p).takeWhile (isW wd) = [] then -1 else ((p + ((l.drop p).takeWhile (isW wd)).length : Nat) : Int) := by
    rw [endT, hdr, tkE_cons, if_neg hsg, if_neg h34, ← hwd]
    by_cases htw : (c :: l.drop (p + 1)).takeWhile (isW wd) = []
    · rw [if_pos htw, if_pos htw]
    · rw [if_neg htw, if_neg htw]
  rw [eE]
  (first | (refine H.wg ?_; clear H; intros; rename_i w H; constructor) | refine wk ?_)
  refine (in_ref (c.toNat : Int) 97 122 _).use ?_
  rintro q w' ⟨rfl, rfl⟩
  rw [hwd2]
  (first | (refine H.wg ?_; clear H; intros; rename_i w H; constructor) | refine wk ?_)
  refine SemC.cut 2 (fun j : Nat => [(1, iv (p : Int)), (8, iv ((p + j : Nat) : Int))]) (fun j w' => p + j ≤ l.length ∧ (∀ y ∈ (l.drop p).take j, isW wd y = true) ∧ (∀ h : p + j < l.length, isW wd l[p + j] = false) ∧ Rel W V [] V w') ?_ ?_
  · refine loop_inv (S := Nat) tabOk [0, 1, 4, 5, 6, 7, 37, 41, 47, 54, 61, 105] (fun j => [(8, iv ((p + j : Nat) : Int))]) (fun j w' => p + j ≤ l.length ∧ (∀ y ∈ (l.drop p).take j, isW wd y = true) ∧ Rel W V [] V w') (fun j _ => l.length - (p + j)) 0 ?_
    (conv => whnf)
    refine ⟨(by repeat (first | exact trivial | refine ⟨rfl, ?_⟩)), ⟨by omega, by simp, H.sx⟩, ?_⟩
    clear H
    rintro j w ⟨hj, hall, H⟩
    by_cases hlt : p + j < l.length
    rotate_left
    · (first | (refine H.wg ?_; clear H; intros; rename_i w H; constructor) | refine wk ?_)
      exact ⟨j, (by repeat (first | exact trivial | refine ⟨rfl, ?_⟩)), hj, hall, fun h => absurd h hlt, H.sx⟩
    obtain ⟨p1, c1⟩ := hs.at1 (g := bv) (fun _ => rfl) hlt
    obtain ⟨x, hx⟩ : ∃ x, x = l[p + j] := ⟨_, rfl⟩
    rw [← hx] at c1
    have hx8 := x.toNat_lt
    (first | (refine H.wg ?_; clear H; intros; rename_i w H; constructor) | refine wk ?_)
    refine (in_ref (x.toNat : Int) 48 57 _).use ?_
    rintro q w' ⟨rfl, rfl⟩
    by_cases hd : 48 ≤ x.toNat ∧ x.toNat ≤ 57
    · have hw : isW wd x = true := by simp [isW, isDg, hd]
      rw [decide_eq_true (by omega)]
      (first | (refine H.wg ?_; clear H; intros; rename_i w H; constructor) | refine wk ?_)
      refine ⟨(by repeat (first | exact trivial | refine ⟨rfl, ?_⟩)), j + 1, (by repeat (first | exact trivial | refine ⟨rfl, ?_⟩)), ⟨by omega, fun y hy => ?_, H.sx⟩, by omega⟩
      rw [List.take_succ_eq_append_getElem (by rw [List.length_drop]; omega), List.getElem_drop] at hy
      rcases List.mem_append.1 hy with hy | hy
      · exact hall y hy
      · rw [List.mem_singleton.1 hy, ← hx]
        exact hw
    rw [decide_eq_false (by omega)]
    by_cases h45 : x = 45
    · have hw : isW wd x = true := by simp [isW, h45]
      have h45' : x.toNat = 45 := by rw [h45]; rfl
      (first | (refine H.wg ?_; clear H; intros; rename_i w H; constructor) | refine wk ?_)
      refine ⟨(by repeat (first | exact trivial | refine ⟨rfl, ?_⟩)), j + 1, (by repeat (first | exact trivial | refine ⟨rfl, ?_⟩)), ⟨by omega, fun y hy => ?_, H.sx⟩, by omega⟩
      rw [List.take_succ_eq_append_getElem (by rw [List.length_drop]; omega), List.getElem_drop] at hy
      rcases List.mem_append.1 hy with hy | hy
      · exact hall y hy
      · rw [List.mem_singleton.1 hy, ← hx]
        exact hw
    have h45' : x.toNat ≠ 45 := fun e => h45 (UInt8.toNat_inj.1 e)
    have hdg : isDg x = false := by simp only [isDg]; simp; omega
    cases wd with
    | false =>
      have hw : isW false x = false := by simp [isW, hdg, h45]
      (first | (refine H.wg ?_; clear H; intros; rename_i w H; constructor) | refine wk ?_)
      exact ⟨j, (by repeat (first | exact trivial | refine ⟨rfl, ?_⟩)), hj, hall, fun h => by rw [← hx]; exact hw, H.sx⟩
    | true =>
      (first | (refine H.wg ?_; clear H; intros; rename_i w H; constructor) | refine wk ?_)
      refine (in_ref (x.toNat : Int) 97 122 _).use ?_
      rintro q w' ⟨rfl, rfl⟩
      by_cases haz : 97 ≤ x.toNat ∧ x.toNat ≤ 122
      · have hw : isW true x = true := by simp [isW, azB, haz]
        rw [decide_eq_true (by omega)]
        (first | (refine H.wg ?_; clear H; intros; rename_i w H; constructor) | refine wk ?_)
        refine ⟨(by repeat (first | exact trivial | refine ⟨rfl, ?_⟩)), j + 1, (by repeat (first | exact trivial | refine ⟨rfl, ?_⟩)), ⟨by omega, fun y hy => ?_, H.sx⟩, by omega⟩
        rw [List.take_succ_eq_append_getElem (by rw [List.length_drop]; omega), List.getElem_drop] at hy
        rcases List.mem_append.1 hy with hy | hy
        · exact hall y hy
        · rw [List.mem_singleton.1 hy, ← hx]
          exact hw
      rw [decide_eq_false (by omega)]
      have haz' : azB x = false := by simp only [azB]; simp; omega
      by_cases h95 : x = 95
      · have hw : isW true x = true := by simp [isW, h95]
        have h95' : x.toNat = 95 := by rw [h95]; rfl
        (first | (refine H.wg ?_; clear H; intros; rename_i w H; constructor) | refine wk ?_)
        refine ⟨(by repeat (first | exact trivial | refine ⟨rfl, ?_⟩)), j + 1, (by repeat (first | exact trivial | refine ⟨rfl, ?_⟩)), ⟨by omega, fun y hy => ?_, H.sx⟩, by omega⟩
        rw [List.take_succ_eq_append_getElem (by rw [List.length_drop]; omega), List.getElem_drop] at hy
        rcases List.mem_append.1 hy with hy | hy
        · exact hall y hy
        · rw [List.mem_singleton.1 hy, ← hx]
          exact hw
      have h95' : x.toNat ≠ 95 := fun e => h95 (UInt8.toNat_inj.1 e)
      by_cases h46 : x = 46
      · have hw : isW true x = true := by simp [isW, h46]
        have h46' : x.toNat = 46 := by rw [h46]; rfl
        (first | (refine H.wg ?_; clear H; intros; rename_i w H; constructor) | refine wk ?_)
        refine ⟨(by repeat (first | exact trivial | refine ⟨rfl, ?_⟩)), j + 1, (by repeat (first | exact trivial | refine ⟨rfl, ?_⟩)), ⟨by omega, fun y hy => ?_, H.sx⟩, by omega⟩
        rw [List.take_succ_eq_append_getElem (by rw [List.length_drop]; omega), List.getElem_drop] at hy
        rcases List.mem_append.1 hy with hy | hy
        · exact hall y hy
        · rw [List.mem_singleton.1 hy, ← hx]
          exact hw
      have h46' : x.toNat ≠ 46 := fun e => h46 (UInt8.toNat_inj.1 e)
      have hw : isW true x = false := by simp [isW, hdg, haz', h45, h95, h46]
      (first | (refine H.wg ?_; clear H; intros; rename_i w H; constructor) | refine wk ?_)
      exact ⟨j, (by repeat (first | exact trivial | refine ⟨rfl, ?_⟩)), hj, hall, fun h => by rw [← hx]; exact hw, H.sx⟩
  clear H
  rintro j w ⟨hj, hall, hst, H⟩
  have htw : (l.drop p).takeWhile (isW wd) = (l.drop p).take j := by
    conv => lhs; rw [← List.take_append_drop j (l.drop p)]
    refine (takeWhile_stop hall fun y r h => ?_).1
    rw [List.drop_drop] at h
    have hlt : p + j < l.length := by
      have := congrArg List.length h
      rw [List.length_drop, List.length_cons] at this
      omega
    rw [List.drop_eq_getElem_cons hlt] at h
    injection h with h _
    rw [← h]
    exact hst hlt
  have htl : ((l.drop p).take j).length = j := by rw [List.length_take, List.length_drop]; omega
  rw [htw]
  by_cases h0 : j = 0
  · subst h0
    rw [List.take_zero, if_pos rfl]
    (first | (refine H.wg ?_; clear H; intros; rename_i w H; constructor) | refine wk ?_)
    first | exact H.sx | exact ⟨rfl, H.sx⟩
  · rw [if_neg (fun h => h0 (by rw [h] at htl; exact htl.symm)), htl]
    (first | (refine H.wg ?_; clear H; intros; rename_i w H; constructor) | refine wk ?_)
    first | exact H.sx | exact ⟨rfl, H.sx⟩
theorem cut_eq (l : List UInt8) (a j : Nat) : (l.take (a + j)).drop a = (l.drop a).take j := by
  rw [List.drop_take, Nat.add_sub_cancel_left]
/-- what scan returns -/
structure ScR (W V : World) (o : Option (BL × List UInt8)) (q : Value) (w' : World) : Prop where
  ex : ∃ (V' : World) (x y : Sl) (k : Bool), Sub V V' ∧ Rel W V [] V' w' ∧ q = .tuple #[x.v, y.v, .bool k] ∧ (match o with
    | none => k = false
    | some z => k = true ∧ SlF strC V' x (z.1.map Prod.snd) ∧ SlF strC V' y (z.1.map Prod.fst ++ [z.2]))
set_option maxRecDepth 100000 in
set_option maxHeartbeats 2000000 in
theorem scan_ref (hV : Sub V W) {s : Sl} {l : List UInt8} (hs : Byt V s l) (hl : l.length ≤ 1000000) : Ret Tryz.prog 29 [s.v].toArray W (ScR W V (scP (l.length + 1) l)) := by
  have H := Rel.start hV
  have hlen := hs.len
  have hcap := hs.cap
  obtain ⟨full, hfull⟩ : ∃ full, full = scP (l.length + 1) l := ⟨_, rfl⟩
  rw [← hfull]
  refine cal_of_vc tabOk Tryz.func29 rfl (by kernel_rfl) 52 rfl (by simp) [0, 2, 3, 4, 5, 6, 7, 8, 9, 21, 35, 42] ?_
  (first | (refine H.wg ?_; clear H; intros; rename_i w H; constructor) | refine wk ?_)
  replace H := (H.rowNil 9 1).rowNil 9 1
  refine loop_inv (S := Nat × Sl × Sl × BL) tabOk [0] (fun k => [(5, k.2.1.v), (6, k.2.2.1.v), (7, iv (k.1 : Int))]) (fun k w' => k.1 ≤ l.length ∧ k.2.2.2.length ≤ k.1 ∧ (∃ n, (l.drop k.1).length < n ∧ full = (scP n (l.drop k.1)).map fun x => (k.2.2.2 ++ x.1, x.2)) ∧ Rel W V [.row k.2.1 9 1 ((k.2.2.2.map Prod.snd).flatMap strC), .row k.2.2.1 9 1 ((k.2.2.2.map Prod.fst).flatMap strC)] V w') (fun k _ => l.length - k.1) (0, ⟨none, 0, 0⟩, ⟨none, 0, 0⟩, []) ?_
  (conv => whnf)
  refine ⟨(by repeat (first | exact trivial | refine ⟨rfl, ?_⟩)), ⟨Nat.zero_le _, Nat.zero_le _, ⟨l.length + 1, by simp, ?_⟩, H⟩, ?_⟩
  · rw [hfull]
    show scP (l.length + 1) l = (scP (l.length + 1) l).map fun x => ([] ++ x.1, x.2)
    cases scP (l.length + 1) l <;> rfl
  clear H
  rintro ⟨a, r5, r6, acc⟩ w ⟨ha, hacc, ⟨n, hn, hf⟩, H⟩
  dsimp only at ha hacc hn hf H ⊢
  obtain ⟨n, rfl⟩ : ∃ m, n = m + 1 := ⟨n - 1, by omega⟩
  (first | (refine H.wg ?_; clear H; intros; rename_i w H; constructor) | refine wk ?_)
  refine SemC.cut 2 (fun j : Nat => [(0, s.v), (5, r5.v), (6, r6.v), (7, iv ((a + j : Nat) : Int)), (8, iv (a : Int))]) (fun j w' => a + j ≤ l.length ∧ (∀ y ∈ (l.drop a).take j, bkB y = true) ∧ (∀ h : a + j < l.length, bkB l[a + j] = false) ∧ Rel W V [.row r5 9 1 ((acc.map Prod.snd).flatMap strC), .row r6 9 1 ((acc.map Prod.fst).flatMap strC)] V w') ?_ ?_
  · refine loop_inv (S := Nat) tabOk [0, 2, 3, 4, 5, 6, 8, 9, 35, 42] (fun j => [(7, iv ((a + j : Nat) : Int))]) (fun j w' => a + j ≤ l.length ∧ (∀ y ∈ (l.drop a).take j, bkB y = true) ∧ Rel W V [.row r5 9 1 ((acc.map Prod.snd).flatMap strC), .row r6 9 1 ((acc.map Prod.fst).flatMap strC)] V w') (fun j _ => l.length - (a + j)) 0 ?_
    (conv => whnf)
    refine ⟨(by repeat (first | exact trivial | refine ⟨rfl, ?_⟩)), ⟨by omega, by simp, H⟩, ?_⟩
    clear H
    rintro j w ⟨hj, hall, H⟩
    by_cases hlt : a + j < l.length
    rotate_left
    · (first | (refine H.wg ?_; clear H; intros; rename_i w H; constructor) | refine wk ?_)
      exact ⟨j, (by repeat (first | exact trivial | refine ⟨rfl, ?_⟩)), hj, hall, fun h => absurd h hlt, H⟩
    obtain ⟨p1, c1⟩ := hs.at1 (g := bv) (fun _ => rfl) hlt
    obtain ⟨x, hx⟩ : ∃ x, x = l[a + j] := ⟨_, rfl⟩
    rw [← hx] at c1
    (first | (refine H.wg ?_; clear H; intros; rename_i w H; constructor) | refine wk ?_)
    refine (isBlank_ref H.data x).use ?_
    rintro v w ⟨rfl, K⟩
    (have hKb := K.base; replace H := Rel.call H K)
    simp only [List.cons_append, List.nil_append] at H
    cases hb : bkB x with
    | true =>
      (first | (refine H.wg ?_; clear H; intros; rename_i w H; constructor) | refine wk ?_)
      refine ⟨(by repeat (first | exact trivial | refine ⟨rfl, ?_⟩)), j + 1, (by repeat (first | exact trivial | refine ⟨rfl, ?_⟩)), ⟨by omega, fun y hy => ?_, H⟩, by omega⟩
      rw [List.take_succ_eq_append_getElem (by rw [List.length_drop]; omega), List.getElem_drop] at hy
      rcases List.mem_append.1 hy with hy | hy
      · exact hall y hy
      · rw [List.mem_singleton.1 hy, ← hx]
        exact hb
    | false =>
      (first | (refine H.wg ?_; clear H; intros; rename_i w H; constructor) | refine wk ?_)
      exact ⟨j, (by repeat (first | exact trivial | refine ⟨rfl, ?_⟩)), hj, hall, fun h => by rw [← hx]; exact hb, H⟩
  clear H
  rintro j w ⟨hj, hall, hst, H⟩
  have hsplit : (l.drop a).takeWhile bkB = (l.drop a).take j ∧ (l.drop a).dropWhile bkB = l.drop (a + j) := by
    have := takeWhile_stop (p := bkB) (a := (l.drop a).take j) hall (t := (l.drop a).drop j) fun y r h => by
      rw [List.drop_drop] at h
      have hlt : a + j < l.length := by
        have := congrArg List.length h
        rw [List.length_drop, List.length_cons] at this
        omega
      rw [List.drop_eq_getElem_cons hlt] at h
      injection h with h _
      rw [← h]
      exact hst hlt
    rw [List.take_append_drop, List.drop_drop] at this
    exact this
  have hsub := SlF.sub hs (n := 1) (fun _ => rfl) (a := a) (b := a + j) (by omega) hj
  rw [cut_eq] at hsub
  rw [scP, hsplit.1, hsplit.2] at hf
  have hbl : ((l.drop a).take j).length = j := by rw [List.length_take, List.length_drop]; omega
  (first | (refine H.wg ?_; clear H; intros; rename_i w H; constructor) | refine wk ?_)
  refine ⟨(l.drop a).take j, by rw [hbl]; omega, byC_map _ ▸ (hsub.up H.data).cells, ?_⟩
  (first | (refine H.wh ?_; clear H; intros; rename_i w H; constructor) | refine wk ?_)
  ((first | refine Rel.nwD H ?_ | refine Rel.nw H ?_); clear H; intro w b30 H)
  (first | (refine H.wg ?_; clear H; intros; rename_i w H; constructor) | refine wk ?_)
  refine Rel.app1_1 (f := strC) (s := r6) (l := acc.map Prod.fst) (x := (l.drop a).take j) tabOk rfl rfl rfl rfl rfl (by decide) (fun _ => rfl) (by simp [Value.oneCell']) H (by rw [List.length_map]; show (acc.length + 1) * 16 ≤ _; omega) (by rw [List.length_map]; omega) ?_
  clear H
  intro r7 w H
  replace H : Rel W V [.row r5 9 1 ((acc.map Prod.snd).flatMap strC), .row r7 9 1 ((acc.map Prod.fst ++ [(l.drop a).take j]).flatMap strC)] V w := H.sx
  by_cases hend : a + j = l.length
  · have hd : l.drop (a + j) = [] := List.drop_eq_nil_of_le (by omega)
    have he : (l.drop a).take j = l.drop a := List.take_of_length_le (by rw [List.length_drop]; omega)
    rw [if_pos hd] at hf
    obtain ⟨V2, hV2, H, h5⟩ := Rel.freezeF H (fun _ => rfl) (by decide)
    obtain ⟨V3, hV3, H, h7⟩ := Rel.freezeF H (fun _ => rfl) (by decide)
    rw [hf]
    (first | (refine H.wg ?_; clear H; intros; rename_i w H; constructor) | refine wk ?_)
    refine ⟨V3, r5, r7, true, hV2.trans hV3, H.sx, rfl, rfl, ?_, ?_⟩
    · show SlF strC V3 r5 ((acc ++ []).map Prod.snd)
      rw [List.append_nil]
      exact h5.up hV3
    · show SlF strC V3 r7 ((acc ++ []).map Prod.fst ++ [l.drop a])
      rw [List.append_nil, ← he]
      exact h7
  have hp : a + j < l.length := by omega
  have hd : l.drop (a + j) ≠ [] := fun h => by
    have := congrArg List.length h
    rw [List.length_drop, List.length_nil] at this
    omega
  rw [if_neg hd] at hf
  (first | (refine H.wg ?_; clear H; intros; rename_i w H; constructor) | refine wk ?_)
  refine (tokenEnd_ref H.data hs hl hp).use ?_
  rintro v w ⟨rfl, K⟩
  (have hKb := K.base; replace H := Rel.call H K)
  simp only [List.cons_append, List.nil_append] at H
  cases ht : tkE (l.drop (a + j)) with
  | none =>
    have e : endT l (a + j) = -1 := by rw [endT, ht]
    rw [ht] at hf
    rw [e, hf]
    (first | (refine H.wg ?_; clear H; intros; rename_i w H; constructor) | refine wk ?_)
    exact ⟨V, ⟨none, 0, 0⟩, ⟨none, 0, 0⟩, false, Sub.refl _, H.sx, rfl, rfl⟩
  | some y =>
    obtain ⟨t, r⟩ := y
    obtain ⟨h1, h2⟩ := tkE_some ht
    have e : endT l (a + j) = ((a + j + t.length : Nat) : Int) := by rw [endT, ht]
    rw [ht] at hf
    have h3 := congrArg List.length h1
    rw [List.length_drop, List.length_append] at h3
    have h4 := List.length_pos_iff.2 h2
    have hr : l.drop (a + j + t.length) = r := by rw [← List.drop_drop, h1, List.drop_left]
    have hcut : (l.take (a + j + t.length)).drop (a + j) = t := by rw [cut_eq, h1, List.take_left]
    have hsub2 := SlF.sub hs (n := 1) (fun _ => rfl) (a := a + j) (b := a + j + t.length) (by omega) (by omega)
    rw [hcut] at hsub2
    rw [e]
    (first | (refine H.wg ?_; clear H; intros; rename_i w H; constructor) | refine wk ?_)
    refine ⟨t, by omega, byC_map _ ▸ (hsub2.up H.data).cells, ?_⟩
    (first | (refine H.wh ?_; clear H; intros; rename_i w H; constructor) | refine wk ?_)
    ((first | refine Rel.nwD H ?_ | refine Rel.nw H ?_); clear H; intro w b49 H)
    (first | (refine H.wg ?_; clear H; intros; rename_i w H; constructor) | refine wk ?_)
    refine Rel.app1_0 (f := strC) (s := r5) (l := acc.map Prod.snd) (x := t) tabOk rfl rfl rfl rfl rfl (by decide) (fun _ => rfl) (by simp [Value.oneCell']) H (by rw [List.length_map]; show (acc.length + 1) * 16 ≤ _; omega) (by rw [List.length_map]; omega) ?_
    clear H
    intro r8 w H
    (first | (refine H.wg ?_; clear H; intros; rename_i w H; constructor) | refine wk ?_)
    refine ⟨(by repeat (first | exact trivial | refine ⟨rfl, ?_⟩)), (a + j + t.length, r8, r7, acc ++ [((l.drop a).take j, t)]), (by repeat (first | exact trivial | refine ⟨rfl, ?_⟩)), ⟨by dsimp only; omega, by dsimp only; rw [List.length_append, List.length_singleton]; omega, ⟨n, ?_, ?_⟩, ?_⟩, by dsimp only; omega⟩
    · dsimp only
      rw [List.length_drop] at hn ⊢
      omega
    · dsimp only
      rw [hr, hf]
      simp only [Option.map_map]
      congr 1
      funext x
      simp
    · dsimp only
      rw [List.map_append, List.map_append]
      exact H.sx
end
end Go.Proofs.YtffaffojkfalhaaGreatDoor
