/-
  Files of hexadecimal records: digits, line ends, sums.
-/
import Derived.Test.YtjfcpnlacodjjaaGreatHexP
import Derived.Test.YtjfcpnlacodjjaaGreatCnvL
namespace Go.Proofs.YtjfcpnlacodjjaaGreat
open Go Go.RowKit

section
variable {V W : World}
theorem fault_hex (hV : Sub V W) (c i : Int) : Ret Tryz.prog 18 [iv c, iv i].toArray W fun v w' => v = faultV c i ∧ Rel W V [] V w' := by
  have H := Rel.start hV
  refine cal_of_vc tabOk Tryz.func18 rfl (by kernel_rfl) 8 rfl (by simp) [0, 1, 4] ?_
  (first | (refine H.wg ?_; clear H; intros; rename_i w H; constructor) | refine wk ?_)
  exact H.sx
set_option maxRecDepth 100000 in
theorem digits_spec (hV : Sub V W) {fl : Nat} (hf : fl < 4) : Ret Tryz.prog 73 [iv (fl : Int)].toArray W fun v w' => v = str (digL (lowF fl)) ∧ Rel W V [] V w' := by
  have H := Rel.start hV
  obtain rfl | rfl | rfl | rfl : fl = 0 ∨ fl = 1 ∨ fl = 2 ∨ fl = 3 := by omega
  all_goals
    refine cal_of_vc tabOk Tryz.func73 rfl (by kernel_rfl) 6 rfl (by simp) [0, 2, 5] ?_
    (first | (refine H.wg ?_; clear H; intros; rename_i w H; constructor) | refine wk ?_)
    exact H.sx
theorem end_spec (hV : Sub V W) {fl : Nat} (hf : fl < 4) : Ret Tryz.prog 59 [iv (fl : Int)].toArray W fun v w' => v = str (endB fl) ∧ Rel W V [] V w' := by
  have H := Rel.start hV
  obtain rfl | rfl | rfl | rfl : fl = 0 ∨ fl = 1 ∨ fl = 2 ∨ fl = 3 := by omega
  all_goals
    refine cal_of_vc tabOk Tryz.func59 rfl (by kernel_rfl) 6 rfl (by simp) [0, 2, 5] ?_
    (first | (refine H.wg ?_; clear H; intros; rename_i w H; constructor) | refine wk ?_)
    exact H.sx
/-- the reference's digits -/
theorem hexDigit_ref (c : UInt8) (lo : Bool) (hV : Sub V W) : Ret Tryz.prog 75 [bv c, .bool lo].toArray W fun v w' => v = iv (hdI lo c) ∧ Rel W V [] V w' := by
  have H := Rel.start hV
  have hc := c.toNat_lt
  refine cal_of_vc tabOk Tryz.func75 rfl (by kernel_rfl) 32 rfl (by simp) [0, 1, 4, 7, 16, 27] ?_
  (first | (refine H.wg ?_; clear H; intros; rename_i w H; constructor) | refine wk ?_)
  refine (in_ref _ _ _ _).use ?_
  rintro v w' ⟨rfl, rfl⟩
  by_cases h1 : 48 ≤ c.toNat ∧ c.toNat ≤ 57
  · have e : hdI lo c = (c.toNat : Int) - 48 := by
      unfold hdI hdg
      rw [if_pos h1]
      simp only
      omega
    rw [decide_eq_true (by omega), e]
    (first | (refine H.wg ?_; clear H; intros; rename_i w H; constructor) | refine wk ?_)
    rw [show wr .u8 ((c.toNat : Int) - 48) = (c.toNat : Int) - 48 by show ((c.toNat : Int) - 48) % 256 = _; omega]
    (first | (refine H.wg ?_; clear H; intros; rename_i w H; constructor) | refine wk ?_)
    exact H.sx
  rw [decide_eq_false (by omega)]
  (first | (refine H.wg ?_; clear H; intros; rename_i w H; constructor) | refine wk ?_)
  cases lo with
  | true =>
    (first | (refine H.wg ?_; clear H; intros; rename_i w H; constructor) | refine wk ?_)
    refine (in_ref _ _ _ _).use ?_
    rintro v w' ⟨rfl, rfl⟩
    by_cases h2 : 97 ≤ c.toNat ∧ c.toNat ≤ 102
    · have e : hdI true c = (c.toNat : Int) - 87 := by
        unfold hdI hdg
        rw [if_neg h1, if_pos ⟨rfl, h2⟩]
        simp only
        omega
      rw [decide_eq_true (by omega), e]
      (first | (refine H.wg ?_; clear H; intros; rename_i w H; constructor) | refine wk ?_)
      rw [show wr .u8 ((c.toNat : Int) - 97) = (c.toNat : Int) - 97 by show ((c.toNat : Int) - 97) % 256 = _; omega]
      (first | (refine H.wg ?_; clear H; intros; rename_i w H; constructor) | refine wk ?_)
      exact ⟨congrArg iv (by omega), H.sx⟩
    have e : hdI true c = -1 := by
      unfold hdI hdg
      rw [if_neg h1, if_neg (fun q => h2 q.2), if_neg (fun q => Bool.false_ne_true q.1.symm)]
    rw [decide_eq_false (by omega), e]
    (first | (refine H.wg ?_; clear H; intros; rename_i w H; constructor) | refine wk ?_)
    exact H.sx
  | false =>
    (first | (refine H.wg ?_; clear H; intros; rename_i w H; constructor) | refine wk ?_)
    refine (in_ref _ _ _ _).use ?_
    rintro v w' ⟨rfl, rfl⟩
    by_cases h2 : 65 ≤ c.toNat ∧ c.toNat ≤ 70
    · have e : hdI false c = (c.toNat : Int) - 55 := by
        unfold hdI hdg
        rw [if_neg h1, if_neg (fun q => Bool.false_ne_true q.1), if_pos ⟨rfl, h2⟩]
        simp only
        omega
      rw [decide_eq_true (by omega), e]
      (first | (refine H.wg ?_; clear H; intros; rename_i w H; constructor) | refine wk ?_)
      rw [show wr .u8 ((c.toNat : Int) - 65) = (c.toNat : Int) - 65 by show ((c.toNat : Int) - 65) % 256 = _; omega]
      (first | (refine H.wg ?_; clear H; intros; rename_i w H; constructor) | refine wk ?_)
      exact ⟨congrArg iv (by omega), H.sx⟩
    have e : hdI false c = -1 := by
      unfold hdI hdg
      rw [if_neg h1, if_neg (fun q => Bool.false_ne_true q.1), if_neg (fun q => h2 q.2)]
    rw [decide_eq_false (by omega), e]
    (first | (refine H.wg ?_; clear H; intros; rename_i w H; constructor) | refine wk ?_)
    exact H.sx
theorem sum_spec (hV : Sub V W) {s : Sl} {l : List UInt8} (hs : Byt V s l) (hl : l.length ≤ 1000000) : Ret Tryz.prog 72 [s.v].toArray W fun v w' => v = .int .u8 ((sumB l % 256 : Nat) : Int) ∧ Rel W V [] V w' := by
  have H := Rel.start hV
  have hlen := hs.len
  refine cal_of_vc tabOk Tryz.func72 rfl (by kernel_rfl) 17 rfl (by simp) [0, 2, 3, 5, 6, 7, 8, 9] ?_
  (first | (refine H.wg ?_; clear H; intros; rename_i w H; constructor) | refine wk ?_)
  refine loop_inv (S := Nat) tabOk [0, 2, 6, 7] (fun k => [(3, .int .u8 ((sumB (l.take k) % 256 : Nat) : Int)), (8, iv k)]) (fun k w' => k ≤ l.length ∧ Rel W V [] V w') (fun k _ => l.length - k) 0 ?_
  (conv => whnf)
  refine ⟨(by repeat (first | exact trivial | refine ⟨rfl, ?_⟩)), ⟨by omega, H⟩, ?_⟩
  clear H
  rintro k w ⟨hk, H⟩
  by_cases hlt : k < l.length
  · obtain ⟨p0, c0⟩ := hs.at1 (g := bv) (fun _ => rfl) hlt
    have e := sumB_step hlt
    obtain ⟨x, hx⟩ : ∃ x, x = sumB (l.take k) := ⟨_, rfl⟩
    obtain ⟨c, hc⟩ : ∃ c, c = l[k] := ⟨_, rfl⟩
    rw [← hx, ← hc] at e
    rw [← hc] at c0
    rw [← hx]
    (first | (refine H.wg ?_; clear H; intros; rename_i w H; constructor) | refine wk ?_)
    refine ⟨(by repeat (first | exact trivial | refine ⟨rfl, ?_⟩)), k + 1, ⟨congrArg (fun z => some (Value.int .u8 z)) ?_, congrArg (fun z => some (iv z)) (by omega), trivial⟩, ⟨by omega, H⟩, by omega⟩
    rw [e]
    show (((x % 256 : Nat) : Int) + (c.toNat : Int)) % 256 = _
    omega
  · (first | (refine H.wg ?_; clear H; intros; rename_i w H; constructor) | refine wk ?_)
    rw [List.take_of_length_le (by omega)]
    exact ⟨rfl, H⟩
theorem bsz (l : List UInt8) : (⟨l.toArray⟩ : ByteArray).size = l.length := by simp [ByteArray.size]
theorem hasPrefix_str (hV : Sub V W) (s p : List UInt8) (hs : s.length ≤ 1000000000) : Ret Tryz.prog 96 [str s, str p].toArray W fun v w' => v = .bool (decide (s.take p.length = p)) ∧ Rel W V [] V w' := by
  have H := Rel.start hV
  refine cal_of_vc tabOk Tryz.func96 rfl (by kernel_rfl) 18 rfl (by simp) [0, 1, 4] ?_
  (first | (refine H.wg ?_; clear H; intros; rename_i w H; constructor) | refine wk ?_)
  rw [bsz, bsz]
  by_cases hl : p.length ≤ s.length
  · (first | (refine H.wg ?_; clear H; intros; rename_i w H; constructor) | refine wk ?_)
    rw [bsz]
    (first | (refine H.wg ?_; clear H; intros; rename_i w H; constructor) | refine wk ?_)
    exact H.sx
  · have : s.take p.length ≠ p := fun q => by
      have := congrArg List.length q
      rw [List.length_take] at this
      omega
    rw [decide_eq_false this]
    (first | (refine H.wg ?_; clear H; intros; rename_i w H; constructor) | refine wk ?_)
    exact H.sx
theorem colon_yes (hV : Sub V W) (t : List UInt8) (hs : t.length ≤ 1000000) : Ret Tryz.prog 77 [str (58 :: t), str [58]].toArray W fun v w' => v = .tuple #[str t, .bool true] ∧ Rel W V [] V w' := by
  have H := Rel.start hV
  refine cal_of_vc tabOk Tryz.func77 rfl (by kernel_rfl) 11 rfl (by simp) [0, 1, 4, 5] ?_
  (first | (refine H.wg ?_; clear H; intros; rename_i w H; constructor) | refine wk ?_)
  refine Ret.use (K := fun v w' => v = .tuple #[str t, .bool true] ∧ Rel W V [] V w') ?_ ?_
  · refine cal_of_vc tabOk Tryz.func85 rfl (by kernel_rfl) 15 rfl (by simp) [0, 1, 4, 5, 9] ?_
    (first | (refine H.wg ?_; clear H; intros; rename_i w H; constructor) | refine wk ?_)
    refine (hasPrefix_str H.data (58 :: t) [58] (by simp only [List.length_cons]; omega)).use ?_
    rintro v w ⟨rfl, K⟩
    (have hKb := K.base; replace H := H.call0 K)
    rw [decide_eq_true (show (58 :: t).take ([58] : List UInt8).length = [58] from rfl)]
    (first | (refine H.wg ?_; clear H; intros; rename_i w H; constructor) | refine wk ?_)
    refine ⟨⟨by decide, by show (1 : Int) ≤ ((58 :: t).length : Nat); simp only [List.length_cons]; omega⟩, ?_⟩
    (first | (refine H.wg ?_; clear H; intros; rename_i w H; constructor) | refine wk ?_)
    refine ⟨?_, H.sx⟩
    rw [List.take_length]
    rfl
  rintro v w ⟨rfl, K⟩
  (have hKb := K.base; replace H := H.call0 K)
  (first | (refine H.wg ?_; clear H; intros; rename_i w H; constructor) | refine wk ?_)
  exact H.sx
theorem colon_no (hV : Sub V W) (s : List UInt8) (hs : s.length ≤ 1000000) (h : s.take 1 ≠ [58]) : Ret Tryz.prog 77 [str s, str [58]].toArray W fun v w' => v = .tuple #[str s, .bool false] ∧ Rel W V [] V w' := by
  have H := Rel.start hV
  refine cal_of_vc tabOk Tryz.func77 rfl (by kernel_rfl) 11 rfl (by simp) [0, 1, 4, 5] ?_
  (first | (refine H.wg ?_; clear H; intros; rename_i w H; constructor) | refine wk ?_)
  refine Ret.use (K := fun v w' => v = .tuple #[str s, .bool false] ∧ Rel W V [] V w') ?_ ?_
  · refine cal_of_vc tabOk Tryz.func85 rfl (by kernel_rfl) 15 rfl (by simp) [0, 1, 4, 5, 9] ?_
    (first | (refine H.wg ?_; clear H; intros; rename_i w H; constructor) | refine wk ?_)
    refine (hasPrefix_str H.data s [58] (by omega)).use ?_
    rintro v w ⟨rfl, K⟩
    (have hKb := K.base; replace H := H.call0 K)
    rw [decide_eq_false (show ¬ s.take ([58] : List UInt8).length = [58] from h)]
    (first | (refine H.wg ?_; clear H; intros; rename_i w H; constructor) | refine wk ?_)
    exact H.sx
  rintro v w ⟨rfl, K⟩
  (have hKb := K.base; replace H := H.call0 K)
  (first | (refine H.wg ?_; clear H; intros; rename_i w H; constructor) | refine wk ?_)
  exact H.sx
theorem or_hex : ∀ x, x < 16 → ∀ y, y < 16 → bitsI .or .i64 ((x * 16 : Nat) : Int) ((y : Nat) : Int) = ((16 * x + y : Nat) : Int) := by decide +kernel
structure RecP (W V : World) (o : Option (List UInt8)) (v : Value) (w' : World) : Prop where
  ex : ∃ (V' : World) (r : Sl), Sub V V' ∧ Rel W V [] V' w' ∧ v = .tuple #[r.v, .bool o.isSome] ∧ ∀ raw, o = some raw → Byt V' r raw
set_option maxRecDepth 100000 in
set_option maxHeartbeats 1000000 in
theorem readRecord_spec (hV : Sub V W) {fl : Nat} (hf : fl < 4) (s : List UInt8) (hs : s.length ≤ 100000) : Ret Tryz.prog 60 [str s, iv (fl : Int)].toArray W (RecP W V (rdS (lowF fl) s)) := by
  have H := Rel.start hV
  refine cal_of_vc tabOk Tryz.func60 rfl (by kernel_rfl) 77 rfl (by simp) [0, 1, 4, 5, 6, 7, 8, 9, 10, 23, 27, 48] ?_
  (first | (refine H.wg ?_; clear H; intros; rename_i w H; constructor) | refine wk ?_)
  by_cases hp : s.take 1 = [58]
  rotate_left
  · refine (colon_no H.data s (by omega) hp).use ?_
    rintro v w ⟨rfl, K⟩
    (have hKb := K.base; replace H := H.call0 K)
    have e : rdS (lowF fl) s = none := by
      cases s with
      | nil => rfl
      | cons c t => rw [rdS_cons, if_neg fun q => hp (by rw [q.1]; rfl)]
    rw [e]
    (first | (refine H.wg ?_; clear H; intros; rename_i w H; constructor) | refine wk ?_)
    exact ⟨V, ⟨none, 0, 0⟩, Sub.refl _, H.sx, rfl, fun _ h => by cases h⟩
  obtain ⟨t, rfl⟩ : ∃ t, s = 58 :: t := by
    cases s with
    | nil => cases hp
    | cons c t =>
      have : c = 58 := by simpa using hp
      exact ⟨t, by rw [this]⟩
  rw [List.length_cons] at hs
  refine (colon_yes H.data t (by omega)).use ?_
  rintro v w ⟨rfl, K⟩
  (have hKb := K.base; replace H := H.call0 K)
  by_cases hpar : t.length % 2 = 0
  rotate_left
  · have e := rdS_odd (lo := lowF fl) hpar
    (first | (refine H.wg ?_; clear H; intros; rename_i w H; constructor) | refine wk ?_)
    rw [bsz]
    rw [e]
    (first | (refine H.wg ?_; clear H; intros; rename_i w H; constructor) | refine wk ?_)
    exact ⟨V, ⟨none, 0, 0⟩, Sub.refl _, H.sx, rfl, fun _ h => by cases h⟩
  (first | (refine H.wg ?_; clear H; intros; rename_i w H; constructor) | refine wk ?_)
  rw [bsz]
  (first | (refine H.wg ?_; clear H; intros; rename_i w H; constructor) | refine wk ?_)
  replace H := H.rowNil 5 1
  refine loop_inv (S := Nat × Sl × List UInt8) tabOk [0, 1, 6, 23] (fun k => [(7, k.2.1.v), (8, iv ((2 * k.1 : Nat) : Int))]) (fun k w' => 2 * k.1 ≤ t.length ∧ k.2.2.length = k.1 ∧ hexB (lowF fl) k.2.2 = t.take (2 * k.1) ∧ Rel W V [.row k.2.1 5 1 (k.2.2.flatMap byC)] V w') (fun k _ => t.length - k.1) (0, ⟨none, 0, 0⟩, []) ?_
  (conv => whnf)
  refine ⟨(by repeat (first | exact trivial | refine ⟨rfl, ?_⟩)), ⟨by omega, rfl, rfl, H⟩, ?_⟩
  clear H
  rintro ⟨k, r, raw⟩ w ⟨hk, hrl, hre, H⟩
  dsimp only at hk hrl hre H ⊢
  by_cases hlt : 2 * k < t.length
  · have h1 : 2 * k + 1 < t.length := by omega
    have hnd : ∀ j (hj : j < t.length), hdg (lowF fl) t[j] = none → rdS (lowF fl) (58 :: t) = none := fun j hj h => rdS_dig hj h
    (first | (refine H.wg ?_; clear H; intros; rename_i w H; constructor) | refine wk ?_)
    rw [bsz]
    (first | (refine H.wg ?_; clear H; intros; rename_i w H; constructor) | refine wk ?_)
    have g0 : t[(((2 * k : Nat) : Int)).toNat]? = some t[2 * k] := List.getElem?_eq_getElem hlt
    have g1 : t[(((2 * k : Nat) : Int) + 1).toNat]? = some t[2 * k + 1] := by rw [show (((2 * k : Nat) : Int) + 1).toNat = 2 * k + 1 by omega]; exact List.getElem?_eq_getElem h1
    ((first | refine draw_vc (id := 8) tabOk mixed [] [0, 2, 3, 4, 6, 8, 9, 10, 11, 1, 5, 7, 12, 13, 14] (by kernel_rfl) ?_); intro w hdw; replace H := Rel.ext H hdw.ext)
    (first | (refine H.wg ?_; clear H; intros; rename_i w H; constructor) | refine wk ?_)
    refine (digits_spec H.data hf).use ?_
    rintro v w ⟨rfl, K⟩
    (have hKb := K.base; replace H := H.call0 K)
    (first | (refine H.wg ?_; clear H; intros; rename_i w H; constructor) | refine wk ?_)
    refine (indexByte_spec _ _ _).use ?_
    rintro v w' ⟨rfl, rfl⟩
    (first | (refine H.wg ?_; clear H; intros; rename_i w H; constructor) | refine wk ?_)
    refine (digits_spec H.data hf).use ?_
    rintro v w ⟨rfl, K⟩
    (have hKb := K.base; replace H := H.call0 K)
    (first | (refine H.wg ?_; clear H; intros; rename_i w H; constructor) | refine wk ?_)
    refine (indexByte_spec _ _ _).use ?_
    rintro v w' ⟨rfl, rfl⟩
    rw [show ∀ c : UInt8, ((c.toNat : Int)).toNat.toUInt8 = c from fun c => by simp, show ∀ c : UInt8, ((c.toNat : Int)).toNat.toUInt8 = c from fun c => by simp, digL_index, digL_index]
    (first | (refine H.wg ?_; clear H; intros; rename_i w H; constructor) | refine wk ?_)
    cases hx : hdg (lowF fl) t[2 * k] with
    | none =>
      have hx2 := hdI_neg.2 hx
      have e := hnd _ hlt hx
      generalize hdI (lowF fl) t[2 * k] = z at hx2
      rw [e]
      (first | (refine H.wg ?_; clear H; intros; rename_i w H; constructor) | refine wk ?_)
      exact ⟨V, ⟨none, 0, 0⟩, Sub.refl _, H.sx, rfl, fun _ h => by cases h⟩
    | some x =>
    cases hy : hdg (lowF fl) t[2 * k + 1] with
    | none =>
      have hx2 := hdI_some hx
      have hy2 := hdI_neg.2 hy
      have e := hnd _ h1 hy
      rw [hx2]
      generalize hdI (lowF fl) t[2 * k + 1] = z at hy2
      rw [e]
      (first | (refine H.wg ?_; clear H; intros; rename_i w H; constructor) | refine wk ?_)
      exact ⟨V, ⟨none, 0, 0⟩, Sub.refl _, H.sx, rfl, fun _ h => by cases h⟩
    | some y =>
    obtain ⟨x1, x2⟩ := hdg_some hx
    obtain ⟨y1, y2⟩ := hdg_some hy
    rw [hdI_some hx, hdI_some hy]
    (first | (refine H.wg ?_; clear H; intros; rename_i w H; constructor) | refine wk ?_)
    rw [show (x : Int) * 2 ^ min (Int.toNat 4) IntKind.i64.bits = ((x * 16 : Nat) : Int) by show (x : Int) * 16 = _; omega]
    (first | (refine H.wg ?_; clear H; intros; rename_i w H; constructor) | refine wk ?_)
    rw [or_hex x x1 y y1, show Value.int .u8 (wr .u8 ((16 * x + y : Nat) : Int)) = bv (UInt8.ofNat (16 * x + y)) by
      simp only [bv]
      rw [toNat_ofNat_lt (by omega)]
      congr 1
      show ((16 * x + y : Nat) : Int) % 256 = _
      omega] at H
    refine Rel.app1_0 (f := byC) (l := raw) (x := UInt8.ofNat (16 * x + y)) tabOk rfl rfl rfl rfl rfl (by decide) (fun _ => rfl) (by simp [Value.oneCell', bv]) H (by show (raw.length + 1) * 1 ≤ _; omega) (by omega) ?_
    clear H
    intro r1 w H
    (first | (refine H.wg ?_; clear H; intros; rename_i w H; constructor) | refine wk ?_)
    refine ⟨(by repeat (first | exact trivial | refine ⟨rfl, ?_⟩)), (k + 1, r1, raw ++ [UInt8.ofNat (16 * x + y)]), ⟨rfl, congrArg (fun z => some (iv z)) (by dsimp only; omega), trivial⟩, ⟨by dsimp only; omega, by simp [hrl], ?_, H⟩, by dsimp only; omega⟩
    dsimp only
    have e2 : t.take (2 * k + 1 + 1) = t.take (2 * k) ++ [t[2 * k], t[2 * k + 1]] := by
      rw [List.take_succ_eq_append_getElem h1, List.take_succ_eq_append_getElem hlt, List.append_assoc]
      rfl
    rw [← hexB_take (k := k) x1 y1, hre, show 2 * (k + 1) = 2 * k + 1 + 1 by omega, e2, ← x2, ← y2]
  · have hkl : 2 * k = t.length := by omega
    rw [hkl, List.take_length] at hre
    obtain ⟨V2, hV2, H, hr⟩ := Rel.freezeF H (fun _ => rfl) (by decide)
    have hrn := hr.len
    (first | (refine H.wg ?_; clear H; intros; rename_i w H; constructor) | refine wk ?_)
    rw [bsz]
    (first | (refine H.wg ?_; clear H; intros; rename_i w H; constructor) | refine wk ?_)
    rw [← hre, rdS_all]
    by_cases h5 : 5 ≤ raw.length
    rotate_left
    · rw [if_neg fun q => h5 q.1]
      (first | (refine H.wg ?_; clear H; intros; rename_i w H; constructor) | refine wk ?_)
      exact ⟨V2, r, hV2, H.sx, rfl, fun _ h => by cases h⟩
    obtain ⟨p0, c0⟩ := hr.at1 (g := bv) (fun _ => rfl) (i := 0) (by omega)
    have hb0 : b8 raw 0 = (raw[0]'(by omega)).toNat := by simp [b8, show 0 < raw.length by omega]
    have hlt0 := (raw[0]'(by omega)).toNat_lt
    by_cases h6 : raw.length = 5 + b8 raw 0
    rotate_left
    · rw [if_neg fun q => h6 q.2.1]
      rw [hb0] at h6
      (first | (refine H.wg ?_; clear H; intros; rename_i w H; constructor) | refine wk ?_)
      exact ⟨V2, r, hV2, H.sx, rfl, fun _ h => by cases h⟩
    have h6' := h6
    rw [hb0] at h6'
    (first | (refine H.wg ?_; clear H; intros; rename_i w H; constructor) | refine wk ?_)
    refine (sum_spec H.data hr (by omega)).use ?_
    rintro v w ⟨rfl, K⟩
    (have hKb := K.base; replace H := H.call0 K)
    by_cases h7 : sumB raw % 256 = 0
    · rw [if_pos ⟨h5, h6, h7⟩]
      (first | (refine H.wg ?_; clear H; intros; rename_i w H; constructor) | refine wk ?_)
      rw [h7]
      exact ⟨V2, r, hV2, H.sx, rfl, fun _ h => by cases h; exact hr⟩
    · rw [if_neg fun q => h7 q.2.2]
      (first | (refine H.wg ?_; clear H; intros; rename_i w H; constructor) | refine wk ?_)
      exact ⟨V2, r, hV2, H.sx, by rw [decide_eq_false (by omega)]; rfl, fun _ h => by cases h⟩
end
end Go.Proofs.YtjfcpnlacodjjaaGreat
