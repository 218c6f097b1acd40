/-
  Text files: small functions; units of UTF-16.
-/
import Derived.Test.YtgnaojphgdaalaaDoorTxtR
import Derived.Test.YtgnaojphgdaalaaDoorVcQ
namespace Go.Proofs.YtgnaojphgdaalaaDoor
open Go Go.RowKit

abbrev rv (c : Nat) : Value := .int .i32 (c : Int)
abbrev ruC (c : Nat) : List Value := [rv c]
abbrev rnC (r : RunI) : List Value := [iv r.1, iv r.2]
abbrev resC (e : Int) (r : Sl) : List Value := [iv e, r.v]
theorem wr32 {x : Int} {c : Nat} (h : x = c) (hc : c < 2147483648) : [Value.int .i32 (wr .i32 x)] = ruC c := by
  have e : wr .i32 x = x := by
    subst h
    unfold wr
    simp only [IntKind.wrap, IntKind.bits, IntKind.signed]
    simp
    omega
  rw [e, h]
theorem map_two {α : Type} (a b : List α) (o : Option (List α)) : (o.map (b ++ ·)).map (a ++ ·) = o.map ((a ++ b) ++ ·) := by cases o <;> simp
theorem isCh_lt {c : Nat} (h : isCh c) : c < 1114112 := by unfold isCh at h; omega
section
variable {V W : World}
theorem fault_txt (hV : Sub V W) (c i : Int) : Ret Tryd.prog 24 [iv c, iv i].toArray W fun v w' => v = faultV c i ∧ Rel W V [] V w' := by
  have H := Rel.start hV
  refine cal_of_vc tabOk Tryd.func24 rfl (by kernel_rfl) 8 rfl (by simp) [0, 1, 4] ?_
  (first | (refine H.wh ?_; clear H; intros; rename_i w H; constructor) | refine wk ?_)
  ((first | refine Rel.nwD H ?_ | refine Rel.nw H ?_); clear H; intro w b1 H)
  (first | (refine H.wg ?_; clear H; intros; rename_i w H; constructor) | refine wk ?_)
  exact H.sx
theorem between_spec (n a b : Int) (w : World) : Ret Tryd.prog 62 [iv n, iv a, iv b].toArray w fun v w' => v = .bool (decide (a ≤ n ∧ n < b)) ∧ w = w' := by
  refine cal_of_vc tabOk Tryd.func62 rfl (by kernel_rfl) 15 rfl (by simp) [0, 1, 2, 6] ?_
  (conv => whnf)
  refine condG_dec (fun h1 => ?_) (fun h1 => ?_)
  · (conv => whnf)
    exact ⟨congrArg Value.bool (decide_eq_decide.2 ⟨fun h => ⟨h1, h⟩, fun h => h.2⟩), rfl⟩
  · (conv => whnf)
    exact ⟨congrArg Value.bool (decide_eq_false (fun h => h1 h.1)).symm, rfl⟩
set_option maxRecDepth 100000 in
theorem declined_spec (hV : Sub V W) (c : Nat) : Ret Tryd.prog 27 [rv c].toArray W fun v w' => v = .bool (decide (declC c)) ∧ Rel W V [] V w' := by
  have H := Rel.start hV
  refine cal_of_vc tabOk Tryd.func27 rfl (by kernel_rfl) 25 rfl (by simp) [0, 2] ?_
  by_cases h0 : c < 32
  · by_cases h1 : c = 9
    · rw [decide_eq_false (by omega)]
      (first | (refine H.wg ?_; clear H; intros; rename_i w H; constructor) | refine wk ?_)
      exact H
    by_cases h2 : c = 10
    · rw [decide_eq_false (by omega)]
      (first | (refine H.wg ?_; clear H; intros; rename_i w H; constructor) | refine wk ?_)
      exact H
    by_cases h3 : c = 13
    · rw [decide_eq_false (by omega)]
      (first | (refine H.wg ?_; clear H; intros; rename_i w H; constructor) | refine wk ?_)
      exact H
    rw [decide_eq_true (by omega)]
    (first | (refine H.wg ?_; clear H; intros; rename_i w H; constructor) | refine wk ?_)
    exact H
  by_cases h1 : 127 ≤ c
  · (first | (refine H.wg ?_; clear H; intros; rename_i w H; constructor) | refine wk ?_)
    exact ⟨congrArg Value.bool (decide_eq_decide.2 (by omega)), H⟩
  · rw [decide_eq_false (by omega)]
    (first | (refine H.wg ?_; clear H; intros; rename_i w H; constructor) | refine wk ?_)
    exact H
theorem containsFunc_runes (hV : Sub V W) {s : Sl} {l : List Nat} (hs : SlF ruC V s l) (hl : l.length ≤ 1099511627776) {g : FuncId} {caps : List Value} (p : Nat → Bool)
    (hg : ∀ x ∈ l, ∀ w : World, Sub V w → Ret Tryd.prog g (rv x :: caps).toArray w fun v w' => v = .bool (p x) ∧ Rel w V [] V w') :
    Ret Tryd.prog 26 [s.v, .func (.func g) #[] caps.toArray].toArray W fun v w' => v = .bool (l.any p) ∧ Rel W V [] V w' := by
  have key : Ret Tryd.prog 53 [s.v, .func (.func g) #[] caps.toArray].toArray W fun v w' => (∃ i : Int, v = iv i ∧ (0 ≤ i ↔ l.any p = true)) ∧ Rel W V [] V w' := by
    have H := Rel.start hV
    have hlen := hs.len
    refine cal_of_vc tabOk Tryd.func53 rfl (by kernel_rfl) 19 rfl (by simp) [0, 1, 4, 5, 7, 8, 9, 16] ?_
    (first | (refine H.wg ?_; clear H; intros; rename_i w H; constructor) | refine wk ?_)
    refine loop_inv (S := Nat) tabOk [0, 1, 7] (fun k => [(8, iv k)]) (fun k w' => k ≤ l.length ∧ (l.take k).any p = false ∧ Rel W V [] V w') (fun k _ => l.length - k) 0 ?_
    (conv => whnf)
    refine ⟨(by repeat (first | exact trivial | refine ⟨rfl, ?_⟩)), ⟨by omega, by simp, H⟩, ?_⟩
    clear H
    rintro k w ⟨hk, hz, H⟩
    by_cases hlt : k < l.length
    · obtain ⟨hp, hc⟩ := hs.get1 (g := rv) (fun _ => rfl) hlt
      (first | (refine H.wg ?_; clear H; intros; rename_i w H; constructor) | refine wk ?_)
      refine (hg l[k] (List.getElem_mem hlt) _ H.data).use ?_
      rintro v w ⟨rfl, K⟩
      replace H := H.call K
      (conv => whnf)
      refine condG_split (fun h1 => ?_) (fun h1 => ?_)
      · (first | (refine H.wg ?_; clear H; intros; rename_i w H; constructor) | refine wk ?_)
        refine ⟨⟨k, rfl, fun _ => ?_, fun _ => by omega⟩, H⟩
        rw [List.any_eq_true]
        exact ⟨l[k], List.getElem_mem hlt, h1⟩
      · (first | (refine H.wg ?_; clear H; intros; rename_i w H; constructor) | refine wk ?_)
        exact ⟨(by repeat (first | exact trivial | refine ⟨rfl, ?_⟩)), k + 1, (by repeat (first | exact trivial | refine ⟨rfl, ?_⟩)), ⟨by omega, by rw [any_take hlt, hz, h1]; rfl, H⟩, by omega⟩
    · (first | (refine H.wg ?_; clear H; intros; rename_i w H; constructor) | refine wk ?_)
      refine ⟨⟨-1, rfl, fun h => by omega, fun h => ?_⟩, H⟩
      rw [List.take_of_length_le (by omega)] at hz
      rw [hz] at h
      cases h
  refine cal_of_vc tabOk Tryd.func26 rfl (by kernel_rfl) 9 rfl (by simp) [0, 1, 4] ?_
  (conv => whnf)
  refine key.use ?_
  rintro v w ⟨⟨i, rfl, hi⟩, H⟩
  (conv => whnf)
  refine ⟨?_, H⟩
  simp only [hi]
  cases l.any p <;> rfl
theorem containsFunc_runs (hV : Sub V W) {s : Sl} {l : List RunI} (hs : SlF rnC V s l) (hl : l.length ≤ 1099511627776) {g : FuncId} {caps : List Value} (p : RunI → Bool)
    (hg : ∀ x ∈ l, ∀ w : World, Sub V w → Ret Tryd.prog g (.agg (rnC x).toArray :: caps).toArray w fun v w' => v = .bool (p x) ∧ Rel w V [] V w') :
    Ret Tryd.prog 76 [s.v, .func (.func g) #[] caps.toArray].toArray W fun v w' => v = .bool (l.any p) ∧ Rel W V [] V w' := by
  have key : Ret Tryd.prog 83 [s.v, .func (.func g) #[] caps.toArray].toArray W fun v w' => (∃ i : Int, v = iv i ∧ (0 ≤ i ↔ l.any p = true)) ∧ Rel W V [] V w' := by
    have H := Rel.start hV
    have hlen := hs.len
    refine cal_of_vc tabOk Tryd.func83 rfl (by kernel_rfl) 19 rfl (by simp) [0, 1, 4, 5, 7, 8, 9, 16] ?_
    (first | (refine H.wg ?_; clear H; intros; rename_i w H; constructor) | refine wk ?_)
    refine loop_inv (S := Nat) tabOk [0, 1, 7] (fun k => [(8, iv k)]) (fun k w' => k ≤ l.length ∧ (l.take k).any p = false ∧ Rel W V [] V w') (fun k _ => l.length - k) 0 ?_
    (conv => whnf)
    refine ⟨(by repeat (first | exact trivial | refine ⟨rfl, ?_⟩)), ⟨by omega, by simp, H⟩, ?_⟩
    clear H
    rintro k w ⟨hk, hz, H⟩
    by_cases hlt : k < l.length
    · obtain ⟨hp, hc, hd⟩ := hs.at2 (g := fun r : RunI => iv r.1) (g' := fun r : RunI => iv r.2) (fun _ => rfl) hlt
      (first | (refine H.wg ?_; clear H; intros; rename_i w H; constructor) | refine wk ?_)
      refine (hg l[k] (List.getElem_mem hlt) _ H.data).use ?_
      rintro v w ⟨rfl, K⟩
      replace H := H.call K
      (conv => whnf)
      refine condG_split (fun h1 => ?_) (fun h1 => ?_)
      · (first | (refine H.wg ?_; clear H; intros; rename_i w H; constructor) | refine wk ?_)
        refine ⟨⟨k, rfl, fun _ => ?_, fun _ => by omega⟩, H⟩
        rw [List.any_eq_true]
        exact ⟨l[k], List.getElem_mem hlt, h1⟩
      · (first | (refine H.wg ?_; clear H; intros; rename_i w H; constructor) | refine wk ?_)
        exact ⟨(by repeat (first | exact trivial | refine ⟨rfl, ?_⟩)), k + 1, (by repeat (first | exact trivial | refine ⟨rfl, ?_⟩)), ⟨by omega, by rw [any_take hlt, hz, h1]; rfl, H⟩, by omega⟩
    · (first | (refine H.wg ?_; clear H; intros; rename_i w H; constructor) | refine wk ?_)
      refine ⟨⟨-1, rfl, fun h => by omega, fun h => ?_⟩, H⟩
      rw [List.take_of_length_le (by omega)] at hz
      rw [hz] at h
      cases h
  refine cal_of_vc tabOk Tryd.func76 rfl (by kernel_rfl) 9 rfl (by simp) [0, 1, 4] ?_
  (conv => whnf)
  refine key.use ?_
  rintro v w ⟨⟨i, rfl, hi⟩, H⟩
  (conv => whnf)
  refine ⟨?_, H⟩
  simp only [hi]
  cases l.any p <;> rfl
theorem trivial1_spec (hV : Sub V W) (x : RunI) : Ret Tryd.prog 77 [.agg (rnC x).toArray].toArray W fun v w' => v = .bool (!decide (x.1 = 0)) ∧ Rel W V [] V w' := by
  have H := Rel.start hV
  refine cal_of_vc tabOk Tryd.func77 rfl (by kernel_rfl) 6 rfl (by simp) [0, 1, 2] ?_
  (first | (refine H.wh ?_; clear H; intros; rename_i w H; constructor) | refine wk ?_)
  ((first | refine Rel.nwD H ?_ | refine Rel.nw H ?_); clear H; intro w b1 H)
  (first | (refine H.wg ?_; clear H; intros; rename_i w H; constructor) | refine wk ?_)
  exact ⟨congrArg Value.bool (by by_cases h : x.1 = 0 <;> simp [h]), H.sx⟩
theorem any_triv (e : Nat) (rs : List Run) (h : ∀ r ∈ rs, 1 ≤ r.2) : (decide (e = 0) && !(runsI rs).any (fun x => !decide (x.1 = 0))) = txtTriv e (runsK rs) := by
  unfold txtTriv
  congr 1
  rw [List.not_any_eq_all_not]
  unfold runsI runsK
  rw [List.all_map, List.all_flatMap]
  rw [Bool.eq_iff_iff, List.all_eq_true, List.all_eq_true]
  refine forall_congr' fun r => forall_congr' fun hr => ?_
  obtain ⟨k, n⟩ := r
  have := h _ hr
  dsimp only at this
  obtain ⟨m, rfl⟩ : ∃ m, n = m + 1 := ⟨n - 1, by omega⟩
  simp [Function.comp, List.replicate_succ]
  omega
theorem trivial_spec (hV : Sub V W) (e : Nat) {s : Sl} {rs : List Run} (hs : SlF rnC V s (runsI rs)) (hl : rs.length ≤ 1000000) (h : ∀ r ∈ rs, 1 ≤ r.2) : Ret Tryd.prog 54 [.agg (resC e s).toArray].toArray W fun v w' => v = .bool (txtTriv e (runsK rs)) ∧ Rel W V [] V w' := by
  have H := Rel.start hV
  rw [← any_triv e rs h]
  have hil : (runsI rs).length = rs.length := by simp [runsI]
  refine cal_of_vc tabOk Tryd.func54 rfl (by kernel_rfl) 12 rfl (by simp) [0, 1, 2] ?_
  (first | (refine H.wh ?_; clear H; intros; rename_i w H; constructor) | refine wk ?_)
  ((first | refine Rel.nwD H ?_ | refine Rel.nw H ?_); clear H; intro w b1 H)
  by_cases he : e = 0
  · rw [decide_eq_true he, Bool.true_and]
    (first | (refine H.wg ?_; clear H; intros; rename_i w H; constructor) | refine wk ?_)
    refine (containsFunc_runs (g := 77) (caps := []) H.data hs (by omega) (fun x => !decide (x.1 = 0)) (fun x _ w hw => trivial1_spec hw x)).use ?_
    rintro v w ⟨rfl, K⟩
    (have hKb := K.base; replace H := H.call0 K)
    (first | (refine H.wg ?_; clear H; intros; rename_i w H; constructor) | refine wk ?_)
    exact H.sx
  · rw [decide_eq_false he, Bool.false_and]
    (first | (refine H.wg ?_; clear H; intros; rename_i w H; constructor) | refine wk ?_)
    exact H.sx
theorem shr8 {n : Nat} : ((n : Int) / 2 ^ min (Int.toNat 8) IntKind.i64.bits) = ((n / 256 : Nat) : Int) := by
  show (n : Int) / 256 = _
  omega
theorem unit_cells {big : Bool} {u : Nat} (hu : u < 65536) : (if big = true then [Value.int .u8 (wr .u8 ((u : Int) / 256)), Value.int .u8 (wr .u8 (u : Int))] else [Value.int .u8 (wr .u8 (u : Int)), Value.int .u8 (wr .u8 ((u : Int) / 256))]) = (unB big u).flatMap byC := by
  have e1 : wr .u8 ((u : Int) / 256) = ((u / 256 : Nat) : Int) := by show ((u : Int) / 256) % 256 = _; omega
  have e2 : wr .u8 (u : Int) = ((u % 256 : Nat) : Int) := by show (u : Int) % 256 = _; omega
  rw [e1, e2]
  unfold unB
  split <;> simp only [List.flatMap_cons, List.flatMap_nil, byC, bv, List.cons_append, List.nil_append] <;> rw [toNat_ofNat_lt (by omega), toNat_ofNat_lt (by omega)]
theorem unit_spec (hV : Sub V W) {u : Nat} (hu : u < 65536) (big : Bool) : Ret Tryd.prog 69 [iv (u : Int), .bool big].toArray W fun v w' => ∃ (V' : World) (r : Sl), Sub V V' ∧ Rel W V [] V' w' ∧ v = r.v ∧ Byt V' r (unB big u) := by
  have H := Rel.start hV
  have hc := unit_cells (big := big) hu
  refine cal_of_vc tabOk Tryd.func69 rfl (by kernel_rfl) 18 rfl (by simp) [0, 1, 4, 5] ?_
  cases big
  · rw [if_neg (by simp)] at hc
    (first | (refine H.wh ?_; clear H; intros; rename_i w H; constructor) | refine wk ?_)
    ((first | refine Rel.nwD H ?_ | refine Rel.nw H ?_); clear H; intro w b1 H)
    replace H := H.blkEq (c' := (unB false u).flatMap byC) (by rw [shl8]; exact hc)
    obtain ⟨V2, hV2, H, hb⟩ := H.freezeBlk
    (first | (refine H.wg ?_; clear H; intros; rename_i w H; constructor) | refine wk ?_)
    exact ⟨V2, ⟨some ⟨b1, 0, none⟩, 2, 2⟩, hV2, H.sx, rfl, ⟨rfl, Nat.le_refl _, hb.cells⟩⟩
  · rw [if_pos rfl] at hc
    (first | (refine H.wh ?_; clear H; intros; rename_i w H; constructor) | refine wk ?_)
    ((first | refine Rel.nwD H ?_ | refine Rel.nw H ?_); clear H; intro w b1 H)
    replace H := H.blkEq (c' := (unB true u).flatMap byC) (by rw [shl8]; exact hc)
    obtain ⟨V2, hV2, H, hb⟩ := H.freezeBlk
    (first | (refine H.wg ?_; clear H; intros; rename_i w H; constructor) | refine wk ?_)
    exact ⟨V2, ⟨some ⟨b1, 0, none⟩, 2, 2⟩, hV2, H.sx, rfl, ⟨rfl, Nat.le_refl _, hb.cells⟩⟩
/-- what utf16 answers -/
structure RunesR (W V : World) (o : Option (List Nat)) (v : Value) (w' : World) : Prop where
  ex : ∃ (V' : World) (r : Sl), Sub V V' ∧ Rel W V [] V' w' ∧ (match o with
    | none => v = .tuple #[r.v, .bool false]
    | some cs => v = .tuple #[r.v, .bool true] ∧ SlF ruC V' r cs)
theorem unitsOf_drop {big : Bool} {l : List UInt8} {k : Nat} (hk : k < l.length / 2) : (unitsOf big l).drop k = unitAt big l k :: (unitsOf big l).drop (k + 1) := by
  rw [List.drop_eq_getElem_cons (by simp [unitsOf]; omega)]
  congr 1
  simp [unitsOf]
theorem shl10 {x : Int} : x * 2 ^ min (Int.toNat 10) IntKind.i64.bits = 1024 * x := by
  show x * 1024 = _
  omega
def hiI (h : Option Nat) : Int := match h with
  | none => -1
  | some u => (u : Int)
set_option maxRecDepth 100000 in
set_option maxHeartbeats 1000000 in
theorem utf16_spec (hV : Sub V W) {s : Sl} {l : List UInt8} (hs : Byt V s l) (hl : l.length ≤ 1000000) (heven : l.length % 2 = 0) (big : Bool) : Ret Tryd.prog 50 [s.v, .bool big].toArray W (RunesR W V (unitsD (unitsOf big l))) := by
  have H := Rel.start hV
  have hlen := hs.len
  refine cal_of_vc tabOk Tryd.func50 rfl (by kernel_rfl) 77 rfl (by simp) [0, 1, 4, 5, 6, 7, 8, 9, 10, 14, 31, 52, 57, 70] ?_
  (first | (refine H.wg ?_; clear H; intros; rename_i w H; constructor) | refine wk ?_)
  replace H := H.rowNil 21 1
  refine loop_inv (S := Nat × Sl × List Nat × Option Nat) tabOk [0, 1] (fun q => [(6, q.2.1.v), (7, iv (hiI q.2.2.2)), (8, iv ((2 * q.1 : Nat) : Int))])
    (fun q w' => q.1 ≤ l.length / 2 ∧ q.2.2.1.length ≤ q.1 ∧ unitsD (unitsOf big l) = (unitsD (q.2.2.2.toList ++ (unitsOf big l).drop q.1)).map (q.2.2.1 ++ ·) ∧ (∀ u, q.2.2.2 = some u → isHigh u) ∧ Rel W V [.row q.2.1 21 1 (q.2.2.1.flatMap ruC)] V w') (fun q _ => l.length / 2 - q.1) (0, ⟨none, 0, 0⟩, [], none) ?_
  (conv => whnf)
  refine ⟨(by repeat (first | exact trivial | refine ⟨rfl, ?_⟩)), ⟨by omega, Nat.le_refl _, by simp, by simp, H⟩, ?_⟩
  clear H
  rintro ⟨k, r6, out, h⟩ w ⟨hk, hol, hud, hhi, H⟩
  dsimp only at hk hol hud hhi H ⊢
  by_cases hlt : k < l.length / 2
  rotate_left
  · have hdr : (unitsOf big l).drop k = [] := List.drop_of_length_le (by simp [unitsOf]; omega)
    rw [hdr, List.append_nil] at hud
    cases h with
    | none =>
      have e : unitsD (unitsOf big l) = some out := by rw [hud]; simp [unitsD]
      rw [e]
      obtain ⟨V2, hV2, H, hr⟩ := Rel.freezeF H (fun _ => rfl) (by decide)
      dsimp only [hiI]
      (first | (refine H.wg ?_; clear H; intros; rename_i w H; constructor) | refine wk ?_)
      exact ⟨V2, r6, hV2, H.sx, rfl, hr⟩
    | some u =>
      have hu := hhi u rfl
      have e : unitsD (unitsOf big l) = none := by rw [hud]; rw [show (some u).toList = [u] from rfl, unitsD_lone hu [] (by simp)]; rfl
      rw [e]
      unfold isHigh at hu
      dsimp only [hiI]
      (first | (refine H.wg ?_; clear H; intros; rename_i w H; constructor) | refine wk ?_)
      exact ⟨V, r6, Sub.refl _, H.sx, rfl⟩
  rw [unitsOf_drop hlt] at hud
  obtain ⟨X, hX⟩ : ∃ X, X = (unitsOf big l).drop (k + 1) := ⟨_, rfl⟩
  rw [← hX] at hud
  obtain ⟨p0, c0⟩ := hs.at1 (g := bv) (fun _ => rfl) (show 2 * k < l.length by omega)
  obtain ⟨p1, c1⟩ := hs.at1 (g := bv) (fun _ => rfl) (show 2 * k + 1 < l.length by omega)
  have z0 := l[2 * k].toNat_lt
  have z1 := l[2 * k + 1].toNat_lt
  have hor := or_hi z0 z1
  have hor2 := or_hi z1 z0
  have hul := unitAt_lt big l k
  obtain ⟨u, hu⟩ : ∃ u, u = unitAt big l k := ⟨_, rfl⟩
  have hu2 := hu
  unfold unitAt at hu2
  rw [at8_get (show 2 * k < l.length by omega), at8_get (show 2 * k + 1 < l.length by omega)] at hu2
  rw [← hu] at hud hul
  (first | (refine H.wg ?_; clear H; intros; rename_i w H; constructor) | refine wk ?_)
  ((first | refine draw_vc (id := 6) tabOk mixed [] [0, 1, 2, 3, 4, 5, 6, 7, 8, 9, 10, 11, 12, 13] (by kernel_rfl) ?_ | refine draw_vc (id := 8) tabOk mixed [] [0, 1, 2, 3, 4, 5, 6, 7, 8, 9, 10, 11, 12, 13] (by kernel_rfl) ?_); intro w hdw; replace H := Rel.ext H hdw.ext)
  (first | (refine H.wg ?_; clear H; intros; rename_i w H; constructor) | refine wk ?_)
  rw [shl8]
  (first | (refine H.wg ?_; clear H; intros; rename_i w H; constructor) | refine wk ?_)
  rw [hor]
  cases big
  · rw [if_neg (by simp)] at hu2
    (first | (refine H.wg ?_; clear H; intros; rename_i w H; constructor) | refine wk ?_)
    ((first | refine draw_vc (id := 6) tabOk mixed [] [0, 1, 2, 3, 4, 5, 6, 7, 8, 9, 10, 11, 12, 13] (by kernel_rfl) ?_ | refine draw_vc (id := 8) tabOk mixed [] [0, 1, 2, 3, 4, 5, 6, 7, 8, 9, 10, 11, 12, 13] (by kernel_rfl) ?_); intro w hdw; replace H := Rel.ext H hdw.ext)
    (first | (refine H.wg ?_; clear H; intros; rename_i w H; constructor) | refine wk ?_)
    rw [shl8]
    (first | (refine H.wg ?_; clear H; intros; rename_i w H; constructor) | refine wk ?_)
    rw [hor2, ← hu2]
    (first | (refine H.wg ?_; clear H; intros; rename_i w H; constructor) | refine wk ?_)
    refine (between_spec _ _ _ _).use ?_
    rintro v w' ⟨rfl, rfl⟩
    rw [show decide ((56320 : Int) ≤ ((u : Nat) : Int) ∧ ((u : Nat) : Int) < 57344) = decide (isLow u) from decide_eq_decide.2 (by unfold isLow; omega)]
    by_cases hlow : isLow u
    · rw [decide_eq_true hlow]
      cases hh : h with
      | none =>
        rw [hh] at hud
        rw [hud, show (none : Option Nat).toList ++ u :: X = u :: X from rfl, unitsD_low hlow]
        dsimp only [hiI]
        (first | (refine H.wg ?_; clear H; intros; rename_i w H; constructor) | refine wk ?_)
        exact ⟨V, ⟨none, 0, 0⟩, Sub.refl _, H.sx, rfl⟩
      | some g =>
        rw [hh] at hud hhi
        have hg := hhi g rfl
        rw [show (some g).toList ++ u :: X = g :: u :: X from rfl, unitsD_pair hg hlow] at hud
        dsimp only [hiI]
        unfold isLow isHigh at *
        obtain ⟨c, hc⟩ : ∃ c, c = 65536 + 1024 * (g - 55296) + (u - 56320) := ⟨_, rfl⟩
        rw [← hc] at hud
        (first | (refine H.wg ?_; clear H; intros; rename_i w H; constructor) | refine wk ?_)
        rw [shl10]
        (first | (refine H.wg ?_; clear H; intros; rename_i w H; constructor) | refine wk ?_)
        replace H := H.blkEq (c' := ruC c) (wr32 (by omega) (by omega))
        refine Rel.app1_0 (f := ruC) (l := out) (x := c) tabOk rfl rfl rfl rfl rfl (by decide) (fun _ => rfl) (List.all_eq_true.1 rfl) H (by simp; omega) (by omega) ?_
        clear H
        intro rn w H
        (first | (refine H.wg ?_; clear H; intros; rename_i w H; constructor) | refine wk ?_)
        refine ⟨(by repeat (first | exact trivial | refine ⟨rfl, ?_⟩)), (k + 1, rn, out ++ [c], none), ⟨rfl, rfl, congrArg (fun z => some (iv z)) (by dsimp only; omega), trivial⟩, ⟨by dsimp only; omega, by dsimp only; rw [List.length_append, List.length_singleton]; omega, ?_, by simp, H.sx⟩, by dsimp only; omega⟩
        rw [hud, ← hX]
        exact map_two out [c] (unitsD X)
    · rw [decide_eq_false hlow]
      cases hh : h with
      | some g =>
        rw [hh] at hud hhi
        have hg := hhi g rfl
        rw [hud, show (some g).toList ++ u :: X = g :: u :: X from rfl, unitsD_lone hg (u :: X) (fun v k e => by cases e; exact hlow)]
        dsimp only [hiI]
        unfold isHigh at hg
        (first | (refine H.wg ?_; clear H; intros; rename_i w H; constructor) | refine wk ?_)
        exact ⟨V, ⟨none, 0, 0⟩, Sub.refl _, H.sx, rfl⟩
      | none =>
        rw [hh] at hud
        rw [show (none : Option Nat).toList ++ u :: X = u :: X from rfl] at hud
        dsimp only [hiI]
        (first | (refine H.wg ?_; clear H; intros; rename_i w H; constructor) | refine wk ?_)
        refine (between_spec _ _ _ _).use ?_
        rintro v w' ⟨rfl, rfl⟩
        rw [show decide ((55296 : Int) ≤ ((u : Nat) : Int) ∧ ((u : Nat) : Int) < 56320) = decide (isHigh u) from decide_eq_decide.2 (by unfold isHigh; omega)]
        by_cases hhigh : isHigh u
        · rw [decide_eq_true hhigh]
          (first | (refine H.wg ?_; clear H; intros; rename_i w H; constructor) | refine wk ?_)
          refine ⟨(by repeat (first | exact trivial | refine ⟨rfl, ?_⟩)), (k + 1, r6, out, some u), ⟨rfl, rfl, congrArg (fun z => some (iv z)) (by dsimp only; omega), trivial⟩, ⟨by dsimp only; omega, by dsimp only; omega, ?_, by intro g hg; cases hg; exact hhigh, H.sx⟩, by dsimp only; omega⟩
          rw [hud, ← hX]
          rfl
        · rw [decide_eq_false hhigh]
          rw [unitsD_one hlow hhigh] at hud
          (first | (refine H.wg ?_; clear H; intros; rename_i w H; constructor) | refine wk ?_)
          replace H := H.blkEq (c' := ruC u) (wr32 (by omega) (by omega))
          refine Rel.app1_0 (f := ruC) (l := out) (x := u) tabOk rfl rfl rfl rfl rfl (by decide) (fun _ => rfl) (List.all_eq_true.1 rfl) H (by simp; omega) (by omega) ?_
          clear H
          intro rn w H
          (first | (refine H.wg ?_; clear H; intros; rename_i w H; constructor) | refine wk ?_)
          refine ⟨(by repeat (first | exact trivial | refine ⟨rfl, ?_⟩)), (k + 1, rn, out ++ [u], none), ⟨rfl, rfl, congrArg (fun z => some (iv z)) (by dsimp only; omega), trivial⟩, ⟨by dsimp only; omega, by dsimp only; rw [List.length_append, List.length_singleton]; omega, ?_, by simp, H.sx⟩, by dsimp only; omega⟩
          rw [hud, ← hX]
          exact map_two out [u] (unitsD X)
  · rw [if_pos rfl] at hu2
    rw [← hu2]
    (first | (refine H.wg ?_; clear H; intros; rename_i w H; constructor) | refine wk ?_)
    refine (between_spec _ _ _ _).use ?_
    rintro v w' ⟨rfl, rfl⟩
    rw [show decide ((56320 : Int) ≤ ((u : Nat) : Int) ∧ ((u : Nat) : Int) < 57344) = decide (isLow u) from decide_eq_decide.2 (by unfold isLow; omega)]
    by_cases hlow : isLow u
    · rw [decide_eq_true hlow]
      cases hh : h with
      | none =>
        rw [hh] at hud
        rw [hud, show (none : Option Nat).toList ++ u :: X = u :: X from rfl, unitsD_low hlow]
        dsimp only [hiI]
        (first | (refine H.wg ?_; clear H; intros; rename_i w H; constructor) | refine wk ?_)
        exact ⟨V, ⟨none, 0, 0⟩, Sub.refl _, H.sx, rfl⟩
      | some g =>
        rw [hh] at hud hhi
        have hg := hhi g rfl
        rw [show (some g).toList ++ u :: X = g :: u :: X from rfl, unitsD_pair hg hlow] at hud
        dsimp only [hiI]
        unfold isLow isHigh at *
        obtain ⟨c, hc⟩ : ∃ c, c = 65536 + 1024 * (g - 55296) + (u - 56320) := ⟨_, rfl⟩
        rw [← hc] at hud
        (first | (refine H.wg ?_; clear H; intros; rename_i w H; constructor) | refine wk ?_)
        rw [shl10]
        (first | (refine H.wg ?_; clear H; intros; rename_i w H; constructor) | refine wk ?_)
        replace H := H.blkEq (c' := ruC c) (wr32 (by omega) (by omega))
        refine Rel.app1_0 (f := ruC) (l := out) (x := c) tabOk rfl rfl rfl rfl rfl (by decide) (fun _ => rfl) (List.all_eq_true.1 rfl) H (by simp; omega) (by omega) ?_
        clear H
        intro rn w H
        (first | (refine H.wg ?_; clear H; intros; rename_i w H; constructor) | refine wk ?_)
        refine ⟨(by repeat (first | exact trivial | refine ⟨rfl, ?_⟩)), (k + 1, rn, out ++ [c], none), ⟨rfl, rfl, congrArg (fun z => some (iv z)) (by dsimp only; omega), trivial⟩, ⟨by dsimp only; omega, by dsimp only; rw [List.length_append, List.length_singleton]; omega, ?_, by simp, H.sx⟩, by dsimp only; omega⟩
        rw [hud, ← hX]
        exact map_two out [c] (unitsD X)
    · rw [decide_eq_false hlow]
      cases hh : h with
      | some g =>
        rw [hh] at hud hhi
        have hg := hhi g rfl
        rw [hud, show (some g).toList ++ u :: X = g :: u :: X from rfl, unitsD_lone hg (u :: X) (fun v k e => by cases e; exact hlow)]
        dsimp only [hiI]
        unfold isHigh at hg
        (first | (refine H.wg ?_; clear H; intros; rename_i w H; constructor) | refine wk ?_)
        exact ⟨V, ⟨none, 0, 0⟩, Sub.refl _, H.sx, rfl⟩
      | none =>
        rw [hh] at hud
        rw [show (none : Option Nat).toList ++ u :: X = u :: X from rfl] at hud
        dsimp only [hiI]
        (first | (refine H.wg ?_; clear H; intros; rename_i w H; constructor) | refine wk ?_)
        refine (between_spec _ _ _ _).use ?_
        rintro v w' ⟨rfl, rfl⟩
        rw [show decide ((55296 : Int) ≤ ((u : Nat) : Int) ∧ ((u : Nat) : Int) < 56320) = decide (isHigh u) from decide_eq_decide.2 (by unfold isHigh; omega)]
        by_cases hhigh : isHigh u
        · rw [decide_eq_true hhigh]
          (first | (refine H.wg ?_; clear H; intros; rename_i w H; constructor) | refine wk ?_)
          refine ⟨(by repeat (first | exact trivial | refine ⟨rfl, ?_⟩)), (k + 1, r6, out, some u), ⟨rfl, rfl, congrArg (fun z => some (iv z)) (by dsimp only; omega), trivial⟩, ⟨by dsimp only; omega, by dsimp only; omega, ?_, by intro g hg; cases hg; exact hhigh, H.sx⟩, by dsimp only; omega⟩
          rw [hud, ← hX]
          rfl
        · rw [decide_eq_false hhigh]
          rw [unitsD_one hlow hhigh] at hud
          (first | (refine H.wg ?_; clear H; intros; rename_i w H; constructor) | refine wk ?_)
          replace H := H.blkEq (c' := ruC u) (wr32 (by omega) (by omega))
          refine Rel.app1_0 (f := ruC) (l := out) (x := u) tabOk rfl rfl rfl rfl rfl (by decide) (fun _ => rfl) (List.all_eq_true.1 rfl) H (by simp; omega) (by omega) ?_
          clear H
          intro rn w H
          (first | (refine H.wg ?_; clear H; intros; rename_i w H; constructor) | refine wk ?_)
          refine ⟨(by repeat (first | exact trivial | refine ⟨rfl, ?_⟩)), (k + 1, rn, out ++ [u], none), ⟨rfl, rfl, congrArg (fun z => some (iv z)) (by dsimp only; omega), trivial⟩, ⟨by dsimp only; omega, by dsimp only; rw [List.length_append, List.length_singleton]; omega, ?_, by simp, H.sx⟩, by dsimp only; omega⟩
          rw [hud, ← hX]
          exact map_two out [u] (unitsD X)
end
end Go.Proofs.YtgnaojphgdaalaaDoor
