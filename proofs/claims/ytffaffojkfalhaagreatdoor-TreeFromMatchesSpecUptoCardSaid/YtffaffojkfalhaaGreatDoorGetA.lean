/-
  Get and GetChunk of the reference.
-/
import Derived.Test.YtffaffojkfalhaaGreatDoorWirD
import Derived.Test.YtffaffojkfalhaaGreatDoorVcU
import Derived.Test.YtffaffojkfalhaaGreatDoorWirA
namespace Go.Proofs.YtffaffojkfalhaaGreatDoor
open Go Go.RowKit

abbrev at8 (l : List UInt8) (i : Nat) : Nat := (l[i]?.getD 0).toNat
/-- what is left to read tells what is read in all -/
structure Kp (l : List UInt8) (p k : Nat) : Prop where
  tr : getU k (l.drop (p + k)) = .trunc → getU 0 (l.drop p) = .trunc
  sy : getU k (l.drop (p + k)) = .syn → getU 0 (l.drop p) = .syn
  ok : ∀ u m, getU k (l.drop (p + k)) = .ok u m → ∃ u', getU 0 (l.drop p) = .ok u' (k + m)
theorem Kp.zero (l : List UInt8) (p : Nat) : Kp l p 0 := ⟨fun h => h, fun h => h, fun u m h => ⟨u, by rw [Nat.zero_add]; exact h⟩⟩
theorem at8_get {l : List UInt8} {i : Nat} (h : i < l.length) : at8 l i = l[i].toNat := by simp [at8, h]
section
variable {l : List UInt8} {p k : Nat}
theorem drop_at (h : p + k < l.length) : l.drop (p + k) = l[p + k] :: l.drop (p + (k + 1)) := List.drop_eq_getElem_cons h
theorem Kp.bad (K : Kp l p k) (h : p + k < l.length) (hb : (k = 9 ∧ 1 < at8 l (p + k)) ∨ (0 < k ∧ at8 l (p + k) = 0)) : getU 0 (l.drop p) = .syn := by
  rw [at8_get h] at hb
  exact K.sy (by rw [drop_at h, getU, if_pos hb])
theorem Kp.go (K : Kp l p k) (h : p + k < l.length) (hb : ¬ ((k = 9 ∧ 1 < at8 l (p + k)) ∨ (0 < k ∧ at8 l (p + k) = 0))) (h8 : 128 ≤ at8 l (p + k)) : Kp l p (k + 1) := by
  rw [at8_get h] at hb h8
  have e : getU k (l.drop (p + k)) = match getU (k + 1) (l.drop (p + (k + 1))) with
      | .ok u m => .ok (l[p + k].toNat % 128 + 128 * u) (m + 1)
      | e => e := by
    rw [drop_at h, getU, if_neg hb, if_neg (by omega)]
    cases getU (k + 1) (l.drop (p + (k + 1))) <;> rfl
  refine ⟨fun h1 => K.tr (by rw [e, h1]), fun h1 => K.sy (by rw [e, h1]), fun u m h1 => ?_⟩
  obtain ⟨u', hu⟩ := K.ok _ _ (by rw [e, h1])
  exact ⟨u', by rw [hu]; congr 1; omega⟩
theorem Kp.fin (K : Kp l p k) (h : p + k < l.length) (hb : ¬ ((k = 9 ∧ 1 < at8 l (p + k)) ∨ (0 < k ∧ at8 l (p + k) = 0))) (h8 : at8 l (p + k) < 128) : ∃ u, getU 0 (l.drop p) = .ok u (k + 1) := by
  rw [at8_get h] at hb h8
  exact K.ok _ 1 (by rw [drop_at h, getU, if_neg hb, if_pos h8])
theorem Kp.end (K : Kp l p k) (h : l.length ≤ p + k) : getU 0 (l.drop p) = .trunc := K.tr (by rw [List.drop_of_length_le h, getU])
end
def valU : List UInt8 → Nat
  | [] => 0
  | c :: r => c.toNat % 128 + 128 * valU r
theorem getU_val : ∀ {r : List UInt8} {i u k : Nat}, getU i r = .ok u k → u = valU (r.take k)
  | [], i, u, k, h => by simp [getU] at h
  | c :: r, i, u, k, h => by
    simp only [getU] at h
    split at h
    · cases h
    · split at h
      · rename_i h2
        cases h
        simp [valU]
        omega
      · split at h
        · rename_i u' k' h3
          cases h
          rw [List.take_succ_cons, valU, ← getU_val h3]
        · rename_i e _
          cases e <;> simp_all
theorem valU_step {l : List UInt8} {p t k : Nat} (ht : t < k) (h : p + t < l.length) : valU ((l.drop (p + t)).take (k - t)) = l[p + t].toNat % 128 + 128 * valU ((l.drop (p + (t + 1))).take (k - (t + 1))) := by
  rw [List.drop_eq_getElem_cons h, show k - t = (k - (t + 1)) + 1 by omega, List.take_succ_cons, valU]
  rfl
theorem valU_le {l : List UInt8} {p k : Nat} (hk : p + k ≤ l.length) : ∀ t, t ≤ k → valU ((l.drop (p + t)).take (k - t)) ≤ valU ((l.drop p).take k)
  | 0, _ => Nat.le_refl _
  | t + 1, ht => by
    have := valU_le hk t (by omega)
    rw [valU_step (by omega) (by omega)] at this
    omega
section
variable {V W : World}
set_option maxRecDepth 100000 in
set_option maxHeartbeats 1000000 in
theorem get_ref (hV : Sub V W) {s : Sl} {l : List UInt8} (hs : Byt V s l) (hl : l.length ≤ 1099511627776) {p : Nat} (hp : p ≤ l.length) : Ret Tryz.prog 65 [s.v, iv p].toArray W fun v w' => v = gotV iv 0 (numAt l p) ∧ Rel W V [] V w' := by
  have H := Rel.start hV
  have hlen := hs.len
  refine cal_of_sem tabOk Tryz.func65 rfl (by kernel_rfl) 118 rfl (by simp) [0, 1, 4, 5, 6, 7, 8, 9, 14, 39, 63, 79, 85, 101] ?_
  refine SemC.seqGo tabOk ?_
  (first | (refine H.wh ?_; clear H; intros; rename_i w H; constructor) | refine wk ?_)
  ((first | refine Rel.nwD H ?_ | refine Rel.nw H ?_); clear H; intro w b6 H)
  (first | (refine H.wg ?_; clear H; intros; rename_i w H; constructor) | refine wk ?_)
  refine SemC.seqGo tabOk ?_
  (first | (refine H.wg ?_; clear H; intros; rename_i w H; constructor) | refine wk ?_)
  rw [hlen]
  refine (in_ref p 0 l.length w).use ?_
  rintro q w' ⟨rfl, rfl⟩
  (first | (refine H.wg ?_; clear H; intros; rename_i w H; constructor) | refine wk ?_)
  refine SemC.seqGo tabOk ?_
  (first | (refine H.wg ?_; clear H; intros; rename_i w H; constructor) | refine wk ?_)
  refine SemC.seqCut tabOk (fun k : Nat => [(0, s.v), (1, iv p), (6, .pointer (some ⟨b6, 0, none⟩)), (7, iv k)]) (fun k w' => p + k ≤ l.length ∧ (((k = 0 ∨ 128 ≤ at8 l (p + k - 1)) ∧ getU 0 (l.drop p) = .trunc) ∨ (0 < k ∧ at8 l (p + k - 1) < 128 ∧ ∃ u, getU 0 (l.drop p) = .ok u k)) ∧ Rel W V [.blk b6 [iv 0, iv 0] 29] V w') ?_ ?_
  · (first | (refine H.wg ?_; clear H; intros; rename_i w H; constructor) | refine wk ?_)
    refine loop_inv (S := Nat) tabOk [0, 1, 6, 8, 9, 14, 79, 85, 101] (fun k => [(7, iv k)]) (fun k w' => k ≤ 10 ∧ p + k ≤ l.length ∧ (k = 10 → at8 l (p + 9) ≤ 1) ∧ (k = 0 ∨ 128 ≤ at8 l (p + k - 1) → Kp l p k) ∧ (0 < k → at8 l (p + k - 1) < 128 → ∃ u, getU 0 (l.drop p) = .ok u k) ∧ Rel W V [.blk b6 [iv 0, iv 0] 29] V w') (fun k _ => 10 - k) 0 ?_
    (conv => whnf)
    refine ⟨(by repeat (first | exact trivial | refine ⟨rfl, ?_⟩)), ⟨by omega, by omega, by omega, fun _ => Kp.zero l p, by omega, H.sx⟩, ?_⟩
    clear H
    rintro k w ⟨hk, hpk, h10, hK, hF, H⟩
    have prev : 0 < k → Plain s.a ∧ V.cell? ⟨ablk s.a, aoff s.a + ((p : Int) + (k : Int) - 1).toNat, none⟩ = some (.int .u8 (at8 l (p + k - 1) : Nat)) := fun h0 => by
      obtain ⟨g1, g2⟩ := hs.at1 (g := bv) (fun _ => rfl) (show p + k - 1 < l.length by omega)
      refine ⟨g1, ?_⟩
      rw [show ((p : Int) + (k : Int) - 1).toNat = p + k - 1 by omega, g2, at8_get (by omega)]
    have cur : p + k < l.length → Plain s.a ∧ V.cell? ⟨ablk s.a, aoff s.a + ((p : Int) + (k : Int)).toNat, none⟩ = some (.int .u8 (at8 l (p + k) : Nat)) := fun h0 => by
      obtain ⟨g1, g2⟩ := hs.at1 (g := bv) (fun _ => rfl) h0
      refine ⟨g1, ?_⟩
      rw [show ((p : Int) + (k : Int)).toNat = p + k by omega, g2, at8_get h0]
    by_cases hk0 : k = 0
    · subst hk0
      by_cases hend : l.length ≤ p + 0
      · (first | (refine H.wg ?_; clear H; intros; rename_i w H; constructor) | refine wk ?_)
        exact ⟨0, (by repeat (first | exact trivial | refine ⟨rfl, ?_⟩)), by omega, .inl ⟨.inl rfl, (hK (.inl rfl)).end hend⟩, H.sx⟩
      obtain ⟨c1, c2⟩ := cur (by omega)
      have K := hK (.inl rfl)
      (first | (refine H.wg ?_; clear H; intros; rename_i w H; constructor) | refine wk ?_)
      refine ⟨(by repeat (first | exact trivial | refine ⟨rfl, ?_⟩)), 1, (by repeat (first | exact trivial | refine ⟨rfl, ?_⟩)), ⟨by omega, by omega, by omega, fun h => ?_, fun _ h => ?_, H.sx⟩, by omega⟩
      · exact K.go (by omega) (by omega) (by simpa using h)
      · exact K.fin (by omega) (by omega) (by simpa using h)
    obtain ⟨p1, p2⟩ := prev (by omega)
    by_cases hprev : at8 l (p + k - 1) < 128
    · have := hF (by omega) hprev
      by_cases hk10 : k = 10
      · (first | (refine H.wg ?_; clear H; intros; rename_i w H; constructor) | refine wk ?_)
        exact ⟨k, (by repeat (first | exact trivial | refine ⟨rfl, ?_⟩)), by omega, .inr ⟨by omega, hprev, this⟩, H.sx⟩
      by_cases hend : l.length ≤ p + k
      all_goals
        (first | (refine H.wg ?_; clear H; intros; rename_i w H; constructor) | refine wk ?_)
        exact ⟨k, (by repeat (first | exact trivial | refine ⟨rfl, ?_⟩)), by omega, .inr ⟨by omega, hprev, this⟩, H.sx⟩
    have K := hK (.inr (by omega))
    by_cases hk10 : k = 10
    · subst hk10
      have := h10 rfl
      rw [show p + 10 - 1 = p + 9 by omega] at hprev
      omega
    by_cases hend : l.length ≤ p + k
    · (first | (refine H.wg ?_; clear H; intros; rename_i w H; constructor) | refine wk ?_)
      exact ⟨k, (by repeat (first | exact trivial | refine ⟨rfl, ?_⟩)), by omega, .inl ⟨.inr (by omega), K.end hend⟩, H.sx⟩
    obtain ⟨c1, c2⟩ := cur (by omega)
    by_cases hbad : (k = 9 ∧ 1 < at8 l (p + k)) ∨ (0 < k ∧ at8 l (p + k) = 0)
    · have hb : numAt l p = .bad 1 p := by rw [numAt, K.bad (by omega) hbad]
      rw [hb]
      by_cases h9 : k = 9
      · by_cases h91 : 1 < at8 l (p + k)
        all_goals
          (first | (refine H.wg ?_; clear H; intros; rename_i w H; constructor) | refine wk ?_)
          refine (at_ref H.data 1 p).use ?_
          rintro q w ⟨rfl, K⟩
          (have hKb := K.base; replace H := H.call0 K)
          (first | (refine H.wg ?_; clear H; intros; rename_i w H; constructor) | refine wk ?_)
          exact H.sx
      · (first | (refine H.wg ?_; clear H; intros; rename_i w H; constructor) | refine wk ?_)
        refine (at_ref H.data 1 p).use ?_
        rintro q w ⟨rfl, K⟩
        (have hKb := K.base; replace H := H.call0 K)
        (first | (refine H.wg ?_; clear H; intros; rename_i w H; constructor) | refine wk ?_)
        exact H.sx
    by_cases h9 : k = 9
    all_goals
      (first | (refine H.wg ?_; clear H; intros; rename_i w H; constructor) | refine wk ?_)
      refine ⟨(by repeat (first | exact trivial | refine ⟨rfl, ?_⟩)), k + 1, (by repeat (first | exact trivial | refine ⟨rfl, ?_⟩)), ⟨by omega, by omega, fun h => ?_, fun h => ?_, fun _ h => ?_, H.sx⟩, by omega⟩
      · have h9 : k = 9 := by omega
        subst h9
        omega
      · exact K.go (by omega) hbad (by simpa using h)
      · exact K.fin (by omega) hbad (by simpa using h)
  clear H
  rintro k w ⟨hpk, hc, H⟩
  have hcell : ∀ i, i < l.length → Plain s.a ∧ V.cell? ⟨ablk s.a, aoff s.a + i, none⟩ = some (.int .u8 (at8 l i : Nat)) := fun i hi => by
    obtain ⟨g1, g2⟩ := hs.at1 (g := bv) (fun _ => rfl) hi
    exact ⟨g1, by rw [g2, at8_get hi]⟩
  refine SemC.seqGo tabOk ?_
  rcases hc with ⟨hk, ht⟩ | ⟨hk0, hk8, U, hU⟩
  · have hb : numAt l p = .bad 15 p := by rw [numAt, ht]
    rw [hb]
    by_cases hk0 : k = 0
    · subst hk0
      (first | (refine H.wg ?_; clear H; intros; rename_i w H; constructor) | refine wk ?_)
      refine (at_ref H.data 15 p).use ?_
      rintro q w ⟨rfl, K⟩
      (have hKb := K.base; replace H := H.call0 K)
      (first | (refine H.wg ?_; clear H; intros; rename_i w H; constructor) | refine wk ?_)
      exact H.sx
    · obtain ⟨p1, p2⟩ := hcell (p + k - 1) (by omega)
      have p3 : V.cell? ⟨ablk s.a, aoff s.a + ((p : Int) + (k : Int) - 1).toNat, none⟩ = some (.int .u8 (at8 l (p + k - 1) : Nat)) := by
        rw [show ((p : Int) + (k : Int) - 1).toNat = p + k - 1 by omega]; exact p2
      (first | (refine H.wg ?_; clear H; intros; rename_i w H; constructor) | refine wk ?_)
      refine (at_ref H.data 15 p).use ?_
      rintro q w ⟨rfl, K⟩
      (have hKb := K.base; replace H := H.call0 K)
      (first | (refine H.wg ?_; clear H; intros; rename_i w H; constructor) | refine wk ?_)
      exact H.sx
  obtain ⟨_, _, hU64, _⟩ := put_get _ 0 _ _ (by omega) hU
  have hU64 : U < 18446744073709551616 := by simpa using hU64
  have hUv := getU_val hU
  have hb : numAt l p = .ok (unzz U) (p + k) := by rw [numAt, hU]
  rw [hb]
  obtain ⟨p1, p2⟩ := hcell (p + k - 1) (by omega)
  have p3 : V.cell? ⟨ablk s.a, aoff s.a + ((p : Int) + (k : Int) - 1).toNat, none⟩ = some (.int .u8 (at8 l (p + k - 1) : Nat)) := by
    rw [show ((p : Int) + (k : Int) - 1).toNat = p + k - 1 by omega]; exact p2
  (first | (refine H.wg ?_; clear H; intros; rename_i w H; constructor) | refine wk ?_)
  refine SemC.seqGo tabOk ?_
  (first | (refine H.wg ?_; clear H; intros; rename_i w H; constructor) | refine wk ?_)
  refine SemC.seqCut tabOk (fun _ : Unit => [(1, iv p), (6, .pointer (some ⟨b6, 0, none⟩)), (7, iv k), (8, .int .u64 U)]) (fun _ w' => Rel W V [.blk b6 [iv 0, iv 0] 29] V w') ?_ ?_
  · (first | (refine H.wg ?_; clear H; intros; rename_i w H; constructor) | refine wk ?_)
    refine loop_inv (S := Nat × Nat) tabOk [0, 1, 4, 5, 6, 7, 14, 39, 63, 79, 101] (fun q => [(8, .int .u64 q.2), (9, .int .i64 ((q.1 : Int) - 1))]) (fun q w' => q.1 ≤ k ∧ q.2 = valU ((l.drop (p + q.1)).take (k - q.1)) ∧ Rel W V [.blk b6 [iv 0, iv 0] 29] V w') (fun q _ => q.1) (k, 0) ?_
    (conv => whnf)
    refine ⟨(by repeat (first | exact trivial | refine ⟨rfl, ?_⟩)), ⟨Nat.le_refl _, by simp [valU], H.sx⟩, ?_⟩
    clear H
    rintro ⟨t, u⟩ w ⟨ht, hu, H⟩
    dsimp only at ht hu H
    by_cases ht0 : t = 0
    · subst ht0
      simp only [Nat.add_zero, Nat.sub_zero] at hu
      rw [← hUv] at hu
      subst hu
      (first | (refine H.wg ?_; clear H; intros; rename_i w H; constructor) | refine wk ?_)
      exact ⟨(), (by repeat (first | exact trivial | refine ⟨rfl, ?_⟩)), H.sx⟩
    obtain ⟨t, rfl⟩ : ∃ t', t = t' + 1 := ⟨t - 1, by omega⟩
    have hst := valU_step (l := l) (p := p) (t := t) (k := k) (by omega) (by omega)
    have hle := valU_le (l := l) (p := p) (k := k) hpk t (by omega)
    rw [← hUv, hst, ← hu, ← at8_get (by omega)] at hle
    rw [← hu, ← at8_get (by omega)] at hst
    obtain ⟨q1, q2⟩ := hcell (p + t) (by omega)
    have et : (((t + 1 : Nat) : Int) - 1) = (t : Int) := by omega
    have q3 : V.cell? ⟨ablk s.a, aoff s.a + ((p : Int) + (t : Int)).toNat, none⟩ = some (.int .u8 (at8 l (p + t) : Nat)) := by
      rw [show ((p : Int) + (t : Int)).toNat = p + t by omega]; exact q2
    have h256 : at8 l (p + t) < 256 := UInt8.toNat_lt _
    dsimp only
    rw [et]
    (first | (refine H.wg ?_; clear H; intros; rename_i w H; constructor) | refine wk ?_)
    have hw : wr .u64 (wr .u64 ((u : Int) * 128) + wr .u64 ((at8 l (p + t) : Int) % 128)) = ((at8 l (p + t) % 128 + 128 * u : Nat) : Int) := by
      simp only [wr]
      omega
    exact ⟨(by repeat (first | exact trivial | refine ⟨rfl, ?_⟩)), (t, at8 l (p + t) % 128 + 128 * u), ⟨congrArg (fun z => some (Value.int .u64 z)) hw, rfl, trivial⟩, ⟨by omega, hst.symm, H.sx⟩, by dsimp only; omega⟩
  clear H
  rintro _ w H
  refine SemC.seqGo tabOk ?_
  have hun : unzz U = if U % 2 = 0 then ((U / 2 : Nat) : Int) else -((U / 2 : Nat) : Int) - 1 := rfl
  have hq : wr .u64 ((U : Int) / 2) = ((U / 2 : Nat) : Int) := by
    simp only [wr]
    omega
  by_cases h2 : U % 2 = 0
  · rw [if_pos h2] at hun
    rw [hun]
    (first | (refine H.wg ?_; clear H; intros; rename_i w H; constructor) | refine wk ?_)
    rw [hq]
    (first | (refine H.wg ?_; clear H; intros; rename_i w H; constructor) | refine wk ?_)
    exact H.sx
  · rw [if_neg h2] at hun
    rw [hun]
    (first | (refine H.wg ?_; clear H; intros; rename_i w H; constructor) | refine wk ?_)
    refine SemC.go tabOk ?_
    (first | (refine H.wg ?_; clear H; intros; rename_i w H; constructor) | refine wk ?_)
    rw [hq]
    (first | (refine H.wg ?_; clear H; intros; rename_i w H; constructor) | refine wk ?_)
    refine ⟨?_, H.sx⟩
    simp only [gotV]
    congr 4
    omega
set_option maxRecDepth 100000 in
theorem getChunk_ref (hV : Sub V W) {s : Sl} {l : List UInt8} (hs : Byt V s l) (hl : l.length ≤ 1099511627000) {p : Nat} (hp : p ≤ l.length) : Ret Tryz.prog 66 [s.v, iv p].toArray W (ChunkR W V (chunkAt l p)) := by
  have H := Rel.start hV
  have hlen := hs.len
  have hcap := hs.cap
  refine cal_of_vc tabOk Tryz.func66 rfl (by kernel_rfl) 50 rfl (by simp) [0, 1, 4, 5, 6, 7, 8, 9, 19, 22, 36] ?_
  (first | (refine H.wh ?_; clear H; intros; rename_i w H; constructor) | refine wk ?_)
  ((first | refine Rel.nwD H ?_ | refine Rel.nw H ?_); clear H; intro w b6 H)
  (first | (refine H.wg ?_; clear H; intros; rename_i w H; constructor) | refine wk ?_)
  refine (get_ref H.data hs (by omega) hp).use ?_
  rintro v w ⟨rfl, K⟩
  (have hKb := K.base; replace H := H.call0 K)
  cases hn : numAt l p with
  | bad c i =>
    have hc0 := numAt_ne hn
    have hr : chunkAt l p = .bad c i := by rw [chunkAt, hn]
    rw [hr]
    (first | (refine H.wh ?_; clear H; intros; rename_i w H; constructor) | refine wk ?_)
    ((first | refine Rel.nwD H ?_ | refine Rel.nw H ?_); clear H; intro w b9 H)
    (first | (refine H.wg ?_; clear H; intros; rename_i w H; constructor) | refine wk ?_)
    ((first | refine draw_vc (id := 3) tabOk mixed [] [0, 1, 2, 3] (by kernel_rfl) ?_); intro w hdw; replace H := Rel.ext H hdw.ext)
    (first | (refine H.wg ?_; clear H; intros; rename_i w H; constructor) | refine wk ?_)
    exact ⟨V, ⟨none, 0, 0⟩, [], 0, c, i, Sub.refl _, H.sx, rfl, SlF.nil _ _, rfl, rfl, hc0⟩
  | ok n q =>
    obtain ⟨h1, h2, h3, h4, h5⟩ := numAt_ok hp hn
    by_cases hn0 : n < 0
    · have hr : chunkAt l p = .bad 4 p := by rw [chunkAt, hn]; simp only; rw [if_pos hn0]
      rw [hr]
      (first | (refine H.wh ?_; clear H; intros; rename_i w H; constructor) | refine wk ?_)
      ((first | refine Rel.nwD H ?_ | refine Rel.nw H ?_); clear H; intro w b9 H)
      (first | (refine H.wg ?_; clear H; intros; rename_i w H; constructor) | refine wk ?_)
      refine (at_ref H.data 4 p).use ?_
      rintro v w ⟨rfl, K⟩
      (have hKb := K.base; replace H := H.call0 K)
      (first | (refine H.wg ?_; clear H; intros; rename_i w H; constructor) | refine wk ?_)
      exact ⟨V, ⟨none, 0, 0⟩, [], 0, 4, p, Sub.refl _, H.sx, rfl, SlF.nil _ _, rfl, rfl, by decide⟩
    by_cases hn1 : (l.length : Int) - q < n
    · have hr : chunkAt l p = .bad 15 p := by rw [chunkAt, hn]; simp only; rw [if_neg hn0, if_pos hn1]
      rw [hr]
      (first | (refine H.wh ?_; clear H; intros; rename_i w H; constructor) | refine wk ?_)
      ((first | refine Rel.nwD H ?_ | refine Rel.nw H ?_); clear H; intro w b9 H)
      (first | (refine H.wg ?_; clear H; intros; rename_i w H; constructor) | refine wk ?_)
      refine (at_ref H.data 15 p).use ?_
      rintro v w ⟨rfl, K⟩
      (have hKb := K.base; replace H := H.call0 K)
      (first | (refine H.wg ?_; clear H; intros; rename_i w H; constructor) | refine wk ?_)
      exact ⟨V, ⟨none, 0, 0⟩, [], 0, 15, p, Sub.refl _, H.sx, rfl, SlF.nil _ _, rfl, rfl, by decide⟩
    have hr : chunkAt l p = .ok ((l.drop q).take n.toNat) (q + n.toNat) := by rw [chunkAt, hn]; simp only; rw [if_neg hn0, if_neg hn1]
    rw [hr]
    obtain ⟨m, rfl⟩ : ∃ m : Nat, n = m := ⟨n.toNat, by omega⟩
    simp only [Int.toNat_natCast]
    have hsub := hs.sub (n := 1) (fun _ => rfl) (a := q) (b := q + m) (by omega) (by omega)
    have hbe : (l.take (q + m)).drop q = (l.drop q).take m := by rw [List.drop_take, Nat.add_sub_cancel_left]
    rw [hbe] at hsub
    (first | (refine H.wh ?_; clear H; intros; rename_i w H; constructor) | refine wk ?_)
    ((first | refine Rel.nwD H ?_ | refine Rel.nw H ?_); clear H; intro w b9 H)
    (first | (refine H.wg ?_; clear H; intros; rename_i w H; constructor) | refine wk ?_)
    refine (copy_ref (x := ⟨subA s.a q s.cap 1, q + m - q, s.cap - q⟩) (b := (l.drop q).take m) H.data hsub (by simp only [List.length_take, List.length_drop]; omega)).use ?_
    rintro v w ⟨rn, rfl, K⟩
    (have hKb := K.base; replace H := Rel.call H K)
    simp only [List.cons_append, List.nil_append] at H
    (first | (refine H.wg ?_; clear H; intros; rename_i w H; constructor) | refine wk ?_)
    obtain ⟨V1, hV1, H, hrn⟩ := Rel.freezeF H (fun _ => rfl) (by decide)
    exact ⟨V1, rn, _, _, 0, 0, hV1, H.sx, rfl, hrn, rfl, rfl, by omega, rfl⟩
end
end Go.Proofs.YtffaffojkfalhaaGreatDoor
