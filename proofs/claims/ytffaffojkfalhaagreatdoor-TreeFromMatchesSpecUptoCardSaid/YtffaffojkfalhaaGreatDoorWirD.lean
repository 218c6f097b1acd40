/-
  Reading numbers and byte strings.
-/
import Derived.Test.YtffaffojkfalhaaGreatDoorWirA
namespace Go.Proofs.YtffaffojkfalhaaGreatDoor
open Go Go.RowKit

/-- what a reader returns -/
def gotV {α : Type} (A : α → Value) (z : α) : Got α → Value
  | .ok x q => .tuple #[A x, iv q, .agg #[iv 0, iv 0]]
  | .bad c i => .tuple #[A z, iv 0, .agg #[iv c, iv i]]
/-- i groups of a number have been read -/
theorem getU_step {l : List UInt8} {i u : Nat} {c : UInt8} {r : List UInt8} (hl : l = c :: r) (hs : ¬ ((i = 9 ∧ 1 < c.toNat) ∨ (0 < i ∧ c.toNat = 0))) (hc : ¬ c.toNat < 128) {X : NumR}
    (h : X = match getU i l with | .ok u' k => .ok (u + 2 ^ (7 * i) * u') (i + k) | e => e) : X = match getU (i + 1) r with | .ok u' k => .ok (u + c.toNat % 128 * 2 ^ (7 * i) + 2 ^ (7 * (i + 1)) * u') (i + 1 + k) | e => e := by
  subst hl
  rw [h]
  simp only [getU, if_neg hs, if_neg hc]
  cases getU (i + 1) r with
  | ok u' k =>
    simp only
    congr 1
    · rw [show 7 * (i + 1) = 7 * i + 7 by omega, Nat.pow_add, Nat.mul_add, ← Nat.mul_assoc, Nat.mul_comm (c.toNat % 128), show (2 : Nat) ^ 7 = 128 from rfl]
      omega
    · omega
  | _ => rfl
section
variable {V W : World}
theorem fault_wire (hV : Sub V W) (c i : Int) : Ret Tryz.prog 80 [iv c, iv i].toArray W fun v w' => v = .agg #[iv c, iv i] ∧ Rel W V [] V w' := by
  have H := Rel.start hV
  refine cal_of_vc tabOk Tryz.func80 rfl (by kernel_rfl) 8 rfl (by simp) [0, 1, 4] ?_
  (first | (refine H.wg ?_; clear H; intros; rename_i w H; constructor) | refine wk ?_)
  exact H.sx
set_option maxHeartbeats 2000000 in
set_option maxRecDepth 100000 in
theorem readNumber_spec (hV : Sub V W) {s : Sl} {l : List UInt8} (hs : Byt V s l) (hl : l.length ≤ 1099511627776) {p : Nat} (hp : p ≤ l.length) : Ret Tryz.prog 79 [s.v, iv p].toArray W fun v w' => v = gotV iv 0 (numAt l p) ∧ Rel W V [] V w' := by
  have H := Rel.start hV
  have hlen := hs.len
  refine cal_of_vc tabOk Tryz.func79 rfl (by kernel_rfl) 76 rfl (by simp) [0, 1, 4, 5, 6, 7, 8, 9, 17, 19, 20, 27, 49, 59] ?_
  (first | (refine H.wh ?_; clear H; intros; rename_i w H; constructor) | refine wk ?_)
  ((first | refine Rel.nwD H ?_ | refine Rel.nw H ?_); clear H; intro w b6 H)
  (first | (refine H.wg ?_; clear H; intros; rename_i w H; constructor) | refine wk ?_)
  refine loop_inv (S := Nat × Nat) tabOk [0, 1, 6, 17] (fun k => [(7, .int .u64 k.2), (19, iv k.1)]) (fun k w' => k.1 ≤ 9 ∧ p + k.1 ≤ l.length ∧ k.2 < 2 ^ (7 * k.1) ∧ (getU 0 (l.drop p) = match getU k.1 (l.drop (p + k.1)) with | .ok u' m => .ok (k.2 + 2 ^ (7 * k.1) * u') (k.1 + m) | e => e) ∧ Rel W V [.blk b6 [iv 0, iv 0] 29] V w') (fun k _ => 10 - k.1) (0, 0) ?_
  (conv => whnf)
  refine ⟨(by repeat (first | exact trivial | refine ⟨rfl, ?_⟩)), ⟨by omega, by omega, by simp, by simp; cases getU 0 (l.drop p) <;> simp, H.sx⟩, ?_⟩
  clear H
  rintro ⟨i, u⟩ w ⟨hi, hpi, hu, hg, H⟩
  dsimp only at hi hpi hu hg H
  by_cases hend : p + i = l.length
  · have hb : numAt l p = .bad 15 p := by
      rw [numAt, hg, List.drop_of_length_le (by omega)]
      rfl
    rw [hb]
    (first | (refine H.wg ?_; clear H; intros; rename_i w H; constructor) | refine wk ?_)
    refine (fault_wire H.data 15 p).use ?_
    rintro v w ⟨rfl, K⟩
    replace H := H.call K
    simp only [List.nil_append] at H
    (first | (refine H.wg ?_; clear H; intros; rename_i w H; constructor) | refine wk ?_)
    exact H.sx
  have hlt : p + i < l.length := by omega
  obtain ⟨hpl, hq⟩ := hs.at1 (g := bv) (fun _ => rfl) hlt
  have hdr : l.drop (p + i) = l[p + i] :: l.drop (p + i + 1) := List.drop_eq_getElem_cons hlt
  have hc256 := (l[p + i]).toNat_lt
  have hq' : V.cell? ⟨ablk s.a, aoff s.a + ((p : Int) + (i : Int)).toNat, none⟩ = some (bv l[p + i]) := by rw [show ((p : Int) + (i : Int)).toNat = p + i by omega]; exact hq
  have hst : 7 * (i : Int) = ((7 * i : Nat) : Int) := by omega
  by_cases hsy : (i = 9 ∧ 1 < l[p + i].toNat) ∨ (0 < i ∧ l[p + i].toNat = 0)
  · have hb : numAt l p = .bad 1 p := by
      rw [numAt, hg, hdr, getU, if_pos hsy]
    rw [hb]
    have key : ∀ {F : Prop}, F → F := fun h => h
    by_cases h9 : i = 9 ∧ 1 < l[p + i].toNat
    · obtain ⟨h9a, h9b⟩ := h9
      (first | (refine H.wg ?_; clear H; intros; rename_i w H; constructor) | refine wk ?_)
      refine (fault_wire H.data 1 p).use ?_
      rintro v w ⟨rfl, K⟩
      replace H := H.call K
      simp only [List.nil_append] at H
      (first | (refine H.wg ?_; clear H; intros; rename_i w H; constructor) | refine wk ?_)
      exact H.sx
    · obtain ⟨h0a, h0b⟩ := hsy.resolve_left h9
      by_cases hi9 : i = 9
      all_goals
        (first | (refine H.wg ?_; clear H; intros; rename_i w H; constructor) | refine wk ?_)
        refine (fault_wire H.data 1 p).use ?_
        rintro v w ⟨rfl, K⟩
        replace H := H.call K
        simp only [List.nil_append] at H
        (first | (refine H.wg ?_; clear H; intros; rename_i w H; constructor) | refine wk ?_)
        exact H.sx
  have hn9 : i = 9 → l[p + i].toNat ≤ 1 := fun h => by
    rcases Nat.lt_or_ge 1 l[p + i].toNat with h1 | h1
    · exact absurd (.inl ⟨h, h1⟩) hsy
    · exact h1
  have hn0 : 0 < i → l[p + i].toNat ≠ 0 := fun h h1 => hsy (.inr ⟨h, h1⟩)
  have hpw : 2 ^ (7 * (i + 1)) = 128 * 2 ^ (7 * i) := by rw [show 7 * (i + 1) = 7 * i + 7 by omega, Nat.pow_add, Nat.mul_comm]
  have hx64 : l[p + i].toNat % 128 * 2 ^ (7 * i) < 18446744073709551616 := by
    by_cases h : i = 9
    · have := hn9 h
      have h2 : l[p + i].toNat % 128 ≤ 1 := by omega
      have h3 := Nat.mul_le_mul_right (2 ^ (7 * i)) h2
      have h4 : 2 ^ (7 * i) ≤ 2 ^ 63 := Nat.pow_le_pow_right (by decide) (by omega)
      simp only [Nat.reducePow] at h4
      omega
    · have h2 : l[p + i].toNat % 128 ≤ 127 := by omega
      have h3 := Nat.mul_le_mul_right (2 ^ (7 * i)) h2
      have h4 : 2 ^ (7 * i) ≤ 2 ^ 56 := Nat.pow_le_pow_right (by decide) (by omega)
      simp only [Nat.reducePow] at h4
      omega
  have hu64 : u < 18446744073709551616 := by
    have h4 : 2 ^ (7 * i) ≤ 2 ^ 63 := Nat.pow_le_pow_right (by decide) (by omega)
    simp only [Nat.reducePow] at h4
    omega
  obtain ⟨U, hU⟩ : ∃ U, U = u + l[p + i].toNat % 128 * 2 ^ (7 * i) := ⟨_, rfl⟩
  have hor : bitsI .or .u64 (((i, u) : Nat × Nat).snd : Int) (wr .u64 (wr .u64 (bitsI .and .u8 (l[p + i].toNat : Int) 127) * 2 ^ min (7 * (((i, u) : Nat × Nat).fst : Int)).toNat IntKind.u64.bits)) = (U : Int) := by
    have e1 : min (7 * (((i, u) : Nat × Nat).fst : Int)).toNat IntKind.u64.bits = 7 * i := by
      show min (7 * (i : Int)).toNat 64 = 7 * i
      omega
    rw [e1, and127 (by omega), hU, ← or_shift hu hx64 hu64]
    congr 1
    have e2 : wr .u64 ((l[p + i].toNat % 128 : Nat) : Int) = ((l[p + i].toNat % 128 : Nat) : Int) := by
      simp only [wr]
      omega
    rw [e2, wr_eq]
    have := wrap_u64_nat hx64
    rw [← this]
    simp
  by_cases hc : l[p + i].toNat < 128
  · have hget : getU 0 (l.drop p) = .ok U (i + 1) := by
      rw [hg, hdr, getU, if_neg hsy, if_pos hc]
      simp only
      rw [hU, Nat.mod_eq_of_lt hc, Nat.mul_comm]
    have hU64 : U < 18446744073709551616 := by simpa using (put_get _ 0 _ _ (by omega) hget).2.2.1
    have hres : numAt l p = .ok (unzz U) (p + (i + 1)) := by rw [numAt, hget]
    have hd : (U : Int) / 2 ^ min (Int.toNat 1) IntKind.u64.bits = ((U / 2 : Nat) : Int) := by
      show (U : Int) / 2 = _
      omega
    have hz := unzz_bits hU64
    have hz64 := unzz_i64 hU64
    rw [hres]
    by_cases hi9 : i = 9
    · have h1 := hn9 hi9
      have h2 := hn0 (by omega)
      (first | (refine H.wg ?_; clear H; intros; rename_i w H; constructor) | refine wk ?_)
      rw [hor, hd]
      (first | (refine H.wg ?_; clear H; intros; rename_i w H; constructor) | refine wk ?_)
      rw [and1 hU64]
      (first | (refine H.wg ?_; clear H; intros; rename_i w H; constructor) | refine wk ?_)
      rw [hz]
      refine ⟨?_, H.sx⟩
      simp only [gotV]
      congr 4
    · by_cases hi0 : 0 < i
      · have h2 := hn0 hi0
        (first | (refine H.wg ?_; clear H; intros; rename_i w H; constructor) | refine wk ?_)
        rw [hor, hd]
        (first | (refine H.wg ?_; clear H; intros; rename_i w H; constructor) | refine wk ?_)
        rw [and1 hU64]
        (first | (refine H.wg ?_; clear H; intros; rename_i w H; constructor) | refine wk ?_)
        rw [hz]
        refine ⟨?_, H.sx⟩
        simp only [gotV]
        congr 4
      · (first | (refine H.wg ?_; clear H; intros; rename_i w H; constructor) | refine wk ?_)
        rw [hor, hd]
        (first | (refine H.wg ?_; clear H; intros; rename_i w H; constructor) | refine wk ?_)
        rw [and1 hU64]
        (first | (refine H.wg ?_; clear H; intros; rename_i w H; constructor) | refine wk ?_)
        rw [hz]
        refine ⟨?_, H.sx⟩
        simp only [gotV]
        congr 4
  · have hi9 : ¬ i = 9 := fun h => by have := hn9 h; omega
    have hnext := getU_step hdr hsy hc hg
    by_cases hi0 : 0 < i
    · have h2 := hn0 hi0
      (first | (refine H.wg ?_; clear H; intros; rename_i w H; constructor) | refine wk ?_)
      refine ⟨(by repeat (first | exact trivial | refine ⟨rfl, ?_⟩)), (i + 1, U), ⟨congrArg (fun z => some (Value.int .u64 z)) hor, rfl, trivial⟩, ⟨by omega, by omega, ?_, ?_, H.sx⟩, by omega⟩
      · show U < 2 ^ (7 * (i + 1))
        rw [hpw, hU]
        have := Nat.mul_le_mul_right (2 ^ (7 * i)) (show l[p + i].toNat % 128 ≤ 127 by omega)
        omega
      · show getU 0 (l.drop p) = match getU (i + 1) (l.drop (p + (i + 1))) with | .ok u' m => .ok (U + 2 ^ (7 * (i + 1)) * u') (i + 1 + m) | e => e
        rw [hU]
        exact hnext
    · (first | (refine H.wg ?_; clear H; intros; rename_i w H; constructor) | refine wk ?_)
      refine ⟨(by repeat (first | exact trivial | refine ⟨rfl, ?_⟩)), (i + 1, U), ⟨congrArg (fun z => some (Value.int .u64 z)) hor, rfl, trivial⟩, ⟨by omega, by omega, ?_, ?_, H.sx⟩, by omega⟩
      · show U < 2 ^ (7 * (i + 1))
        rw [hpw, hU]
        have := Nat.mul_le_mul_right (2 ^ (7 * i)) (show l[p + i].toNat % 128 ≤ 127 by omega)
        omega
      · show getU 0 (l.drop p) = match getU (i + 1) (l.drop (p + (i + 1))) with | .ok u' m => .ok (U + 2 ^ (7 * (i + 1)) * u') (i + 1 + m) | e => e
        rw [hU]
        exact hnext
/-- what a reader returns, with what it laid -/
structure ReadR {α β : Type} (A : β → Value) (R : World → β → α → Prop) (W V : World) (res : Got α) (v : Value) (w' : World) : Prop where
  ex : ∃ (V' : World) (x : β) (n c i : Int), Sub V V' ∧ Rel W V [] V' w' ∧ v = .tuple #[A x, iv n, .agg #[iv c, iv i]] ∧ (match res with | .bad c' i' => c = c' ∧ i = i' ∧ c' ≠ 0 | .ok y q => c = 0 ∧ i = 0 ∧ n = q ∧ R V' x y)
/-- what ReadChunk returns -/
structure ChunkR (W V : World) (res : Got (List UInt8)) (v : Value) (w' : World) : Prop where
  ex : ∃ (V' : World) (x : Sl) (ys : List UInt8) (n c i : Int), Sub V V' ∧ Rel W V [] V' w' ∧ v = .tuple #[x.v, iv n, .agg #[iv c, iv i]] ∧ Byt V' x ys ∧ (match res with | .bad c' i' => c = c' ∧ i = i' ∧ c' ≠ 0 | .ok y q => c = 0 ∧ i = 0 ∧ n = q ∧ ys = y)
theorem numAt_ne {l : List UInt8} {p : Nat} {c i : Int} (h : numAt l p = .bad c i) : c ≠ 0 := by
  obtain ⟨h, _⟩ := numAt_bad h
  omega
theorem chunkAt_ne {l : List UInt8} {p : Nat} {c i : Int} (h : chunkAt l p = .bad c i) : c ≠ 0 := by
  obtain ⟨h, _⟩ := chunkAt_bad h
  omega
set_option maxRecDepth 100000 in
theorem readChunk_spec (hV : Sub V W) {s : Sl} {l : List UInt8} (hs : Byt V s l) (hl : l.length ≤ 1099511627776) {p : Nat} (hp : p ≤ l.length) : Ret Tryz.prog 81 [s.v, iv p].toArray W (ChunkR W V (chunkAt l p)) := by
  have H := Rel.start hV
  have hlen := hs.len
  have hcap := hs.cap
  refine cal_of_vc tabOk Tryz.func81 rfl (by kernel_rfl) 47 rfl (by simp) [0, 1, 4, 5, 6, 7, 8, 9, 17, 22, 27] ?_
  (first | (refine H.wh ?_; clear H; intros; rename_i w H; constructor) | refine wk ?_)
  ((first | refine Rel.nwD H ?_ | refine Rel.nw H ?_); clear H; intro w b6 H)
  (first | (refine H.wg ?_; clear H; intros; rename_i w H; constructor) | refine wk ?_)
  refine (readNumber_spec H.data hs hl hp).use ?_
  rintro v w ⟨rfl, K⟩
  replace H := H.call K
  simp only [List.nil_append] at H
  cases hn : numAt l p with
  | bad c i =>
    have hc0 := numAt_ne hn
    have hr : chunkAt l p = .bad c i := by rw [chunkAt, hn]
    rw [hr]
    (first | (refine H.wh ?_; clear H; intros; rename_i w H; constructor) | refine wk ?_)
    ((first | refine Rel.nwD H ?_ | refine Rel.nw H ?_); clear H; intro w b9 H)
    (first | (refine H.wg ?_; clear H; intros; rename_i w H; constructor) | refine wk ?_)
    ((first | refine draw_vc (id := 3) tabOk mixed [] [0, 1, 2, 3] (by kernel_rfl) ?_); intro w hdw; replace H := Rel.ext H hdw.ext)
    (first | (refine H.wg ?_; clear H; intros; rename_i w H; constructor) | refine wk ?_)
    exact ⟨V, ⟨none, 0, 0⟩, [], 0, c, i, Sub.refl _, H.sx, rfl, SlF.nil _ _, rfl, rfl, hc0⟩
  | ok n q =>
    obtain ⟨h1, h2, h3, h4, h5⟩ := numAt_ok hp hn
    by_cases hn0 : n < 0
    · have hr : chunkAt l p = .bad 4 p := by rw [chunkAt, hn]; simp only; rw [if_pos hn0]
      rw [hr]
      (first | (refine H.wh ?_; clear H; intros; rename_i w H; constructor) | refine wk ?_)
      ((first | refine Rel.nwD H ?_ | refine Rel.nw H ?_); clear H; intro w b9 H)
      (first | (refine H.wg ?_; clear H; intros; rename_i w H; constructor) | refine wk ?_)
      refine (fault_wire H.data 4 p).use ?_
      rintro v w ⟨rfl, K⟩
      replace H := H.call K
      simp only [List.nil_append] at H
      (first | (refine H.wg ?_; clear H; intros; rename_i w H; constructor) | refine wk ?_)
      exact ⟨V, ⟨none, 0, 0⟩, [], 0, 4, p, Sub.refl _, H.sx, rfl, SlF.nil _ _, rfl, rfl, by decide⟩
    by_cases hn1 : (l.length : Int) - q < n
    · have hr : chunkAt l p = .bad 15 p := by rw [chunkAt, hn]; simp only; rw [if_neg hn0, if_pos hn1]
      rw [hr]
      (first | (refine H.wh ?_; clear H; intros; rename_i w H; constructor) | refine wk ?_)
      ((first | refine Rel.nwD H ?_ | refine Rel.nw H ?_); clear H; intro w b9 H)
      (first | (refine H.wg ?_; clear H; intros; rename_i w H; constructor) | refine wk ?_)
      refine (fault_wire H.data 15 p).use ?_
      rintro v w ⟨rfl, K⟩
      replace H := H.call K
      simp only [List.nil_append] at H
      (first | (refine H.wg ?_; clear H; intros; rename_i w H; constructor) | refine wk ?_)
      exact ⟨V, ⟨none, 0, 0⟩, [], 0, 15, p, Sub.refl _, H.sx, rfl, SlF.nil _ _, rfl, rfl, by decide⟩
    have hr : chunkAt l p = .ok ((l.drop q).take n.toNat) (q + n.toNat) := by rw [chunkAt, hn]; simp only; rw [if_neg hn0, if_neg hn1]
    rw [hr]
    obtain ⟨m, rfl⟩ : ∃ m : Nat, n = m := ⟨n.toNat, by omega⟩
    simp only [Int.toNat_natCast]
    have hsub := hs.sub (n := 1) (fun _ => rfl) (a := q) (b := q + m) (by omega) (by omega)
    have hbe : (l.take (q + m)).drop q = (l.drop q).take m := by rw [List.drop_take, Nat.add_sub_cancel_left]
    rw [hbe] at hsub
    (first | (refine H.wh ?_; clear H; intros; rename_i w H; constructor) | refine wk ?_)
    ((first | refine Rel.nwD H ?_ | refine Rel.nw H ?_); clear H; intro w b9 H)
    (first | (refine H.wg ?_; clear H; intros; rename_i w H; constructor) | refine wk ?_)
    replace H := H.rowNil 5 1
    refine Rel.appD (s := ⟨none, 0, 0⟩) (x := ⟨subA s.a q s.cap 1, q + m - q, s.cap - q⟩) (xs := []) (ys := (l.drop q).take m) H (i := 0) rfl hsub (by simp; omega) ?_
    clear H
    intro rn w H
    (first | (refine H.wg ?_; clear H; intros; rename_i w H; constructor) | refine wk ?_)
    rw [List.nil_append] at H
    obtain ⟨V1, hV1, H, hrn⟩ := Rel.freezeF H (fun _ => rfl) (by decide)
    exact ⟨V1, rn, _, _, 0, 0, hV1, H.sx, rfl, hrn, rfl, rfl, by omega, rfl⟩
end
end Go.Proofs.YtffaffojkfalhaaGreatDoor
