/-
  bytes.ContainsAny, bytes.ReplaceAll of quotation marks.
-/
import Derived.Test.YtkfcdjomkcmkeaaGreatDoorLibF
import Derived.Test.YtkfcdjomkcmkeaaGreatDoorLibG
namespace Go.Proofs.YtkfcdjomkcmkeaaGreatDoor
open Go Go.RowKit

section
variable {V W : World}
theorem ixA_needs (s : UInt8) (l : List UInt8) : (0 ≤ ixA s l) ↔ tNeeds s l = true := by
  cases h : tNeeds s l with
  | false => rw [ixA_none h]; simp
  | true =>
    obtain ⟨h1, h2⟩ := tkU_eq s l
    have h3 : (tkU s l).2 ≠ [] := fun e => by
      rw [e, List.append_nil] at h1
      rw [← h1, h] at h2
      cases h2
    unfold ixA
    rw [if_neg h3]
    simp only [iff_true]
    omega
theorem containsAny_spec (hV : Sub V W) (hT : Tabs V) (hM : MaxB V) {s : Sl} {l : List UInt8} (hs : Byt V s l) (hl : l.length ≤ 100000000) {c : UInt8} (hc : c.toNat < 128) : Ret Tryz.prog 67 [s.v, str [34, 13, 10, c]].toArray W fun v w' => v = .bool (tNeeds c l) ∧ Rel W V [] V w' := by
  have H := Rel.start hV
  refine cal_of_vc tabOk Tryz.func67 rfl (by kernel_rfl) 9 rfl (by simp) [0, 1, 4] ?_
  (first | (refine H.wg ?_; clear H; intros; rename_i w H; constructor) | refine wk ?_)
  refine (indexAny_spec H.data hT hM hs hl hc).use ?_
  rintro v w ⟨rfl, K⟩
  (have hKb := K.base; replace H := H.call0 K)
  have hin := ixA_needs c l
  generalize ixA c l = z at hin
  have e : decide (z ≥ 0) = tNeeds c l := by
    rw [Bool.eq_iff_iff, decide_eq_true_eq, ← hin]
  (first | (refine H.wg ?_; clear H; intros; rename_i w H; constructor) | refine wk ?_)
  first | rw [e] | rw [show decide (0 ≤ z) = tNeeds c l from e]
  exact ⟨rfl, H.sx⟩
theorem esc_app : ∀ (a b : List UInt8), esc (a ++ b) = esc a ++ esc b
  | [], b => rfl
  | c :: a, b => by
    show esc (c :: (a ++ b)) = esc (c :: a) ++ esc b
    rw [esc, esc, esc_app a b]
    split <;> rfl
theorem esc_none : ∀ {l : List UInt8}, l.count 34 = 0 → esc l = l
  | [], _ => rfl
  | c :: l, h => by
    rw [List.count_cons] at h
    unfold esc
    by_cases hc : c = 34
    · rw [hc] at h
      simp at h
    · rw [if_neg hc, esc_none (by omega)]
theorem esc_cnt : ∀ (l : List UInt8), (esc l).length = l.length + l.count 34
  | [] => rfl
  | c :: l => by
    have ih := esc_cnt l
    unfold esc
    rw [List.count_cons]
    by_cases hc : c = 34
    · rw [if_pos hc, hc]
      simp [ih]
      omega
    · rw [if_neg hc, if_neg (by simpa using hc)]
      simp [ih]
      omega
theorem idx_split (c : UInt8) : ∀ {l : List UInt8}, 0 < l.count c → ∃ a r, l = a ++ c :: r ∧ a.count c = 0 ∧ Lib.indexByte l c = (a.length : Nat)
  | [], h => by simp at h
  | b :: l, h => by
    by_cases hb : b = c
    · subst hb
      exact ⟨[], l, rfl, rfl, by simp [Lib.indexByte]⟩
    · rw [List.count_cons, if_neg (by simpa using hb)] at h
      obtain ⟨a, r, h1, h2, h3⟩ := idx_split c (l := l) (by omega)
      refine ⟨b :: a, r, by rw [h1]; rfl, ?_, ?_⟩
      · rw [List.count_cons, h2, if_neg (by simpa using hb)]
      · unfold Lib.indexByte
        rw [if_neg (by simpa using hb), h3, if_neg (by simp; try omega)]
        rfl
set_option maxRecDepth 100000 in
set_option maxHeartbeats 1000000 in
theorem replace_spec (hV : Sub V W) {s x y : Sl} {l : List UInt8} (hs : Byt V s l) (hl : l.length ≤ 100000000) (hx : Byt V x [34]) (hy : Byt V y [34, 34]) : Ret Tryz.prog 70 [s.v, x.v, y.v, iv (-1)].toArray W fun v w' => ∃ (V' : World) (r : Sl), Sub V V' ∧ Rel W V [] V' w' ∧ v = r.v ∧ Byt V' r (esc l) := by
  have H := Rel.start hV
  have hlen := hs.len
  have hcap := hs.cap
  have hcnt : l.count 34 ≤ l.length := List.count_le_length
  obtain ⟨xa, xn, xc⟩ := x
  obtain ⟨ya, yn, yc⟩ := y
  obtain rfl : xn = 1 := hx.len
  obtain rfl : yn = 2 := hy.len
  change Ret Tryz.prog 70 [s.v, .slice xa 1 xc, .slice ya 2 yc, iv (-1)].toArray W _
  refine cal_of_vc tabOk Tryz.func70 rfl (by kernel_rfl) 132 rfl (by simp) [0, 1, 2, 3, 8, 9, 10, 11, 12, 13, 15, 16, 18, 23, 32, 47, 48, 49, 50, 88, 89, 90] ?_
  (first | (refine H.wg ?_; clear H; intros; rename_i w H; constructor) | refine wk ?_)
  refine (count_one H.data hs hx).use ?_
  rintro v w ⟨rfl, K⟩
  (have hKb := K.base; replace H := H.call0 K)
  by_cases h0 : l.count 34 = 0
  · rw [esc_none h0]
    (first | (refine H.wg ?_; clear H; intros; rename_i w H; constructor) | refine wk ?_)
    replace H := H.rowNil 5 1
    refine Rel.appD (s := ⟨none, 0, 0⟩) (xs := []) H (i := 0) rfl hs (by simp; omega) ?_
    clear H
    intro r1 w H
    simp only [List.set_cons_zero] at H
    rw [List.nil_append] at H
    obtain ⟨V2, hV2, H, hr⟩ := Rel.freezeF H (fun _ => rfl) (by decide)
    (first | (refine H.wg ?_; clear H; intros; rename_i w H; constructor) | refine wk ?_)
    exact ⟨V2, r1, hV2, H.sx, rfl, hr⟩
  obtain ⟨m, hm⟩ : ∃ m, m = l.count 34 := ⟨_, rfl⟩
  rw [← hm] at h0 hcnt ⊢
  obtain ⟨T, hTT⟩ : ∃ T, T = l.length + m := ⟨_, rfl⟩
  (first | (refine H.wg ?_; clear H; intros; rename_i w H; constructor) | refine wk ?_)
  rw [show ((s.len : Nat) : Int) + ((m : Nat) : Int) * (((2 : Nat) : Int) - ((1 : Nat) : Int)) = ((T : Nat) : Int) by rw [hlen, hTT]; simp]
  refine sem_make tabOk rfl rfl rfl rfl rfl rfl (by omega) (by simp; omega) (by omega) fun w b hnb => ?_
  replace H := H.newBlk hnb
  clear hnb
  simp only [Int.toNat_natCast] at H ⊢
  have hsa : ∀ o, subA (some ⟨b, 0, none⟩) o T 1 = if T = o then some ⟨b, 0, none⟩ else some ⟨b, o, none⟩ := fun o => by unfold subA; split <;> simp [addr_add]
  have e34 : ∀ a : List UInt8, esc (a ++ [34]) = esc a ++ [34, 34] := fun a => by rw [esc_app]; rfl
  (first | (refine H.wg ?_; clear H; intros; rename_i w H; constructor) | refine wk ?_)
  refine loop_inv (S := Nat × Nat) tabOk [0, 1, 2, 3, 8, 9, 10, 15, 16, 18, 23, 32, 47, 48, 88, 89, 90] (fun q => [(11, iv ((q.2 + q.1 : Nat) : Int)), (12, iv q.2), (49, iv q.1)]) (fun q w' => q.1 ≤ m ∧ q.2 ≤ l.length ∧ (l.take q.2).count 34 = q.1 ∧ Rel W V [.blk b ((esc (l.take q.2)).flatMap byC ++ List.replicate (T - (q.2 + q.1)) (.int .u8 0)) 5] V w') (fun q _ => m - q.1) (0, 0) ?_
  (conv => whnf)
  refine ⟨(by repeat (first | exact trivial | refine ⟨rfl, ?_⟩)), ⟨by omega, by omega, rfl, H⟩, ?_⟩
  clear H
  rintro ⟨k, st⟩ w ⟨hk, hst, hck, H⟩
  dsimp only at hk hst hck H ⊢
  have hel : ((esc (l.take st)).flatMap byC).length = st + k := by rw [byC_map, List.length_map, esc_cnt, hck, List.length_take]; omega
  have hcd : (l.drop st).count 34 + k = m := by
    have := List.count_append (a := (34 : UInt8)) (l₁ := l.take st) (l₂ := l.drop st)
    rw [List.take_append_drop, ← hm, hck] at this
    omega
  by_cases hlt : k < m
  · obtain ⟨a, r, h1, h2, h3⟩ := idx_split 34 (l := l.drop st) (by omega)
    have hdl := congrArg List.length h1
    rw [List.length_drop, List.length_append, List.length_cons] at hdl
    have hsub := hs.sub (n := 1) (fun _ => rfl) (a := st) (b := l.length) hst (Nat.le_refl _)
    rw [List.take_length] at hsub
    have hsub2 := hs.sub (n := 1) (fun _ => rfl) (a := st) (b := st + a.length) (by omega) (by omega)
    have hmid : (l.take (st + a.length)).drop st = a := by rw [List.drop_take, h1]; simp
    rw [hmid] at hsub2
    have ht1 : l.take (st + a.length + 1) = l.take st ++ a ++ [34] := by
      conv => lhs; rw [← List.take_append_drop st l, h1]
      have e1 : (l.take st).length = st := by rw [List.length_take]; omega
      rw [List.take_append, e1, List.take_of_length_le (by omega)]
      rw [show st + a.length + 1 - st = a.length + 1 by omega]
      simp [List.take_append, List.take_of_length_le]
    (first | (refine H.wg ?_; clear H; intros; rename_i w H; constructor) | refine wk ?_)
    refine (index_one H.data (hlen ▸ hsub) hx).use ?_
    rintro v w ⟨rfl, K⟩
    (have hKb := K.base; replace H := H.call0 K)
    rw [h3]
    (first | (refine H.wg ?_; clear H; intros; rename_i w H; constructor) | refine wk ?_)
    ((first | refine draw_vc (id := 15) tabOk mixed [] [0, 1, 2, 3, 4, 5, 6, 7, 8, 9, 10] (by kernel_rfl) ?_ | refine draw_vc (id := 24) tabOk mixed [] [0, 1, 2, 3, 4, 5, 6, 7, 8, 9, 10] (by kernel_rfl) ?_ | refine draw_vc (id := 28) tabOk mixed [] [0, 1, 2, 3, 4, 5, 6, 7, 8, 9] (by kernel_rfl) ?_); intro w hdw; replace H := Rel.ext H hdw.ext)
    (first | (refine H.wg ?_; clear H; intros; rename_i w H; constructor) | refine wk ?_)
    refine Rel.cpyB tabOk rfl rfl rfl rfl H (i := 0) (o := st + k) rfl (hsub2.up (Sub.refl _)) (by omega) (by simp only [List.length_append, List.length_replicate, hel]; omega) (fun _ => by rw [hsa, if_neg (by omega)]; first | rfl | simp) ?_
    clear H
    intro w H
    simp only [List.set_cons_zero] at H
    have hal : (a.flatMap byC).length = a.length := by rw [byC_map, List.length_map]
    rw [← hal, cp_zero hel (by omega), ← List.flatMap_append, hal] at H
    (first | (refine H.wg ?_; clear H; intros; rename_i w H; constructor) | refine wk ?_)
    have hel2 : ((esc (l.take st) ++ a).flatMap byC).length = st + k + a.length := by rw [List.flatMap_append, List.length_append, hel, hal]
    refine Rel.cpyB tabOk rfl rfl rfl rfl H (i := 0) (o := st + k + a.length) rfl hy (by simp only [List.length_cons, List.length_nil]; omega) (by simp only [List.length_append, List.length_replicate, hel2, List.length_cons, List.length_nil]; omega) (fun _ => by rw [hsa, if_neg (by omega)]; congr 2) ?_
    clear H
    intro w H
    simp only [List.set_cons_zero] at H
    have h2l : (([34, 34] : List UInt8).flatMap byC).length = ([34, 34] : List UInt8).length := rfl
    rw [← h2l, cp_zero hel2 (by rw [h2l]; simp only [List.length_cons, List.length_nil]; omega), ← List.flatMap_append, h2l] at H
    rw [show esc (l.take st) ++ a ++ [34, 34] = esc (l.take (st + a.length + 1)) by rw [ht1, e34, esc_app, esc_none h2]] at H
    rw [show T - (st + k) - a.length - ([34, 34] : List UInt8).length = T - (st + a.length + 1 + (k + 1)) by simp only [List.length_cons, List.length_nil]; omega] at H
    rw [show ((([34, 34] : List UInt8).length : Nat) : Int) = ((2 : Nat) : Int) from rfl]
    (first | (refine H.wg ?_; clear H; intros; rename_i w H; constructor) | refine wk ?_)
    refine ⟨(by repeat (first | exact trivial | refine ⟨rfl, ?_⟩)), (k + 1, st + a.length + 1), ⟨?_, rfl, rfl, trivial⟩, ⟨by dsimp only; omega, by dsimp only; omega, ?_, H⟩, by dsimp only; omega⟩
    · dsimp only
      show some (iv (((st + k : Nat) : Int) + (a.length : Int) + ((2 : Nat) : Int))) = some (iv _)
      congr 2
      omega
    · dsimp only
      rw [ht1, List.count_append, List.count_append, hck, h2]
      rfl
  · obtain rfl : k = m := by omega
    have hsub := hs.sub (n := 1) (fun _ => rfl) (a := st) (b := l.length) hst (Nat.le_refl _)
    rw [List.take_length] at hsub
    (first | (refine H.wg ?_; clear H; intros; rename_i w H; constructor) | refine wk ?_)
    ((first | refine draw_vc (id := 15) tabOk mixed [] [0, 1, 2, 3, 4, 5, 6, 7, 8, 9, 10] (by kernel_rfl) ?_ | refine draw_vc (id := 24) tabOk mixed [] [0, 1, 2, 3, 4, 5, 6, 7, 8, 9, 10] (by kernel_rfl) ?_ | refine draw_vc (id := 28) tabOk mixed [] [0, 1, 2, 3, 4, 5, 6, 7, 8, 9] (by kernel_rfl) ?_); intro w hdw; replace H := Rel.ext H hdw.ext)
    (first | (refine H.wg ?_; clear H; intros; rename_i w H; constructor) | refine wk ?_)
    have hsub3 : Byt V ⟨subA s.a st s.cap 1, s.len - st, s.cap - st⟩ (l.drop st) := hlen ▸ hsub
    refine Rel.cpyB tabOk rfl rfl rfl rfl H (i := 0) (o := st + k) rfl hsub3 (by rw [List.length_drop]; omega) (by simp only [List.length_append, List.length_replicate, hel, List.length_drop]; omega) (fun h => by rw [List.length_drop] at h; rw [hsa, if_neg (by omega)]; first | rfl | simp) ?_
    clear H
    intro w H
    simp only [List.set_cons_zero] at H
    have hal : ((l.drop st).flatMap byC).length = (l.drop st).length := by rw [byC_map, List.length_map]
    rw [← hal, cp_zero hel (by rw [hal, List.length_drop]; omega), ← List.flatMap_append, hal, show T - (st + k) - (l.drop st).length = 0 by rw [List.length_drop]; omega] at H
    simp only [List.replicate_zero, List.append_nil] at H
    rw [show esc (l.take st) ++ l.drop st = esc l by
      conv => rhs; rw [← List.take_append_drop st l, esc_app, esc_none (l := l.drop st) (by omega)]] at H
    obtain ⟨V2, hV2, H, hb⟩ := H.freezeBlk
    have hbt : Byt V2 ⟨some ⟨b, 0, none⟩, T, T⟩ (esc l) := ⟨by show T = _; rw [esc_cnt, ← hm]; omega, Nat.le_refl _, hb.cells⟩
    have hbt2 := hbt.sub (n := 1) (fun _ => rfl) (a := 0) (b := T) (Nat.zero_le _) (by rw [esc_cnt, ← hm]; omega)
    rw [List.drop_zero, List.take_of_length_le (by rw [esc_cnt, ← hm]; omega)] at hbt2
    have hdz : (l.drop st).length = l.length - st := List.length_drop
    rw [hdz]
    (first | (refine H.wg ?_; clear H; intros; rename_i w H; constructor) | refine wk ?_)
    rw [show (((st + k : Nat) : Int) + ((l.length - st : Nat) : Int)).toNat = T by omega]
    exact ⟨V2, _, hV2, H.sx, rfl, hbt2⟩
theorem replaceAll_spec (hV : Sub V W) {s x y : Sl} {l : List UInt8} (hs : Byt V s l) (hl : l.length ≤ 100000000) (hx : Byt V x [34]) (hy : Byt V y [34, 34]) : Ret Tryz.prog 52 [s.v, x.v, y.v].toArray W fun v w' => ∃ (V' : World) (r : Sl), Sub V V' ∧ Rel W V [] V' w' ∧ v = r.v ∧ Byt V' r (esc l) := by
  have H := Rel.start hV
  refine cal_of_vc tabOk Tryz.func52 rfl (by kernel_rfl) 11 rfl (by simp) [0, 1, 2, 6] ?_
  (first | (refine H.wg ?_; clear H; intros; rename_i w H; constructor) | refine wk ?_)
  refine (replace_spec H.data hs hl hx hy).use ?_
  rintro v w ⟨V2, r, hV2, K, rfl, hr⟩
  (have hKb := K.base; replace H := H.call0 K)
  (first | (refine H.wg ?_; clear H; intros; rename_i w H; constructor) | refine wk ?_)
  exact ⟨V2, r, hV2, H.sx, rfl, hr⟩
end
end Go.Proofs.YtkfcdjomkcmkeaaGreatDoor
