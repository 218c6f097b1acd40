/-
  Plain values, plain: valid values with one encoding are one.
-/
import Derived.Test.YtffaffojkfalhaaGreatDoorValE
import Derived.Lib.BytesEntry
namespace Go.Proofs.YtffaffojkfalhaaGreatDoor
open Go Go.RowKit

/-- a value whose nodes are valid -/
def VGood (v : Val) : Prop := VB 1048576 v ∧ ∃ d n m, chk d v n = .ok m
theorem zipIdx_inj {k : Int} {s t : List (List UInt8)} (hs : ∀ x ∈ s, x.length ≤ 1048576) (ht : ∀ x ∈ t, x.length ≤ 1048576) : ∀ {ps qs : List Val} {i : Nat} {x y : List UInt8}, ps.length = qs.length → (∀ p ∈ ps, ∀ q ∈ qs, ∀ u v, enc p ++ u = enc q ++ v → p = q ∧ u = v) →
    (ps.zipIdx i).flatMap (fun p => (if k = 4 then putC (s.getD p.2 []) else []) ++ enc p.1) ++ x = (qs.zipIdx i).flatMap (fun p => (if k = 4 then putC (t.getD p.2 []) else []) ++ enc p.1) ++ y → ps = qs ∧ (k = 4 → ∀ j, i ≤ j → j < i + ps.length → s.getD j [] = t.getD j []) ∧ x = y
  | [], [], i, x, y, _, _, h => ⟨rfl, fun _ j h1 h2 => by simp at h2; omega, by simpa using h⟩
  | [], _ :: _, _, _, _, h, _, _ => by simp at h
  | _ :: _, [], _, _, _, h, _, _ => by simp at h
  | p :: ps, q :: qs, i, x, y, hl, ih, h => by
    have hg : ∀ (l : List (List UInt8)), (∀ x ∈ l, x.length ≤ 1048576) → (l.getD i []).length ≤ 1099511627776 := fun l hl => by
      rw [List.getD_eq_getElem?_getD]
      cases e : l[i]? with
      | none => simp
      | some z => have := hl z (List.mem_of_getElem? e); simp only [Option.getD_some]; omega
    rw [List.zipIdx_cons, List.zipIdx_cons, List.flatMap_cons, List.flatMap_cons, List.append_assoc, List.append_assoc, List.append_assoc, List.append_assoc] at h
    have h2 : (k = 4 → s.getD i [] = t.getD i []) ∧ enc p ++ ((ps.zipIdx (i + 1)).flatMap (fun p => (if k = 4 then putC (s.getD p.2 []) else []) ++ enc p.1) ++ x) = enc q ++ ((qs.zipIdx (i + 1)).flatMap (fun p => (if k = 4 then putC (t.getD p.2 []) else []) ++ enc p.1) ++ y) := by
      by_cases hk : k = 4
      · simp only [if_pos hk] at h ⊢
        obtain ⟨a, b⟩ := putC_inj (hg s hs) (hg t ht) h
        exact ⟨fun _ => a, b⟩
      · simp only [if_neg hk, List.nil_append] at h ⊢
        exact ⟨fun q => absurd q hk, h⟩
    obtain ⟨h3, h4⟩ := ih p (by simp) q (by simp) _ _ h2.2
    obtain ⟨h5, h6, h7⟩ := zipIdx_inj hs ht (by simpa using hl) (fun a ha b hb => ih a (by simp [ha]) b (by simp [hb])) h4
    refine ⟨by rw [h3, h5], fun hk j hj1 hj2 => ?_, h7⟩
    by_cases e : j = i
    · subst e
      exact h2.1 hk
    · exact h6 hk j (by omega) (by simp only [List.length_cons] at hj2; omega)
theorem enc_inj (v : Val) : ∀ {w : Val} {x y : List UInt8}, VGood v → VGood w → enc v ++ x = enc w ++ y → v = w ∧ x = y := by
  induction v using (measure (fun v : Val => SizeOf.sizeOf v)).wf.induction with
  | _ v ih =>
    intro w x y ⟨hB, d, n, m, hc⟩ ⟨hB', d', n', m', hc'⟩ h
    obtain ⟨_, _, k1, f1, p1, s1, _, c1⟩ := chk_ok hc
    obtain ⟨_, _, k2, f2, p2, s2, _, c2⟩ := chk_ok hc'
    rw [enc_eq, enc_eq, List.append_assoc, List.append_assoc] at h
    obtain ⟨ek, h⟩ := putN_inj (by omega) (by omega) h
    unfold formBad at f1 f2
    rw [← ek] at h f2
    have ext : v.num = w.num → v.bytes = w.bytes → v.names = w.names → v.parts = w.parts → v = w := fun a b c e => by
      rw [Val.eta v, Val.eta w, ek, a, b, c, e]
    have nil : ∀ {α : Type} {l : List α}, ¬ 0 < l.length → l = [] := fun h => List.eq_nil_of_length_eq_zero (by omega)
    by_cases e1 : v.kind = 1
    · rw [if_pos e1, if_pos e1] at h
      obtain ⟨a, b⟩ := putN_inj hB.num hB'.num h
      refine ⟨ext a ?_ ?_ ?_, b⟩
      · rw [nil (l := v.bytes) (by omega), nil (l := w.bytes) (by omega)]
      · rw [nil (l := v.names) (by omega), nil (l := w.names) (by omega)]
      · rw [nil (l := v.parts) (by omega), nil (l := w.parts) (by omega)]
    rw [if_neg e1, if_neg e1] at h
    by_cases e2 : v.kind = 2
    · rw [if_pos e2, if_pos e2] at h
      have b1 := hB.bytes
      have b2 := hB'.bytes
      obtain ⟨a, b⟩ := putC_inj (by omega) (by omega) h
      refine ⟨ext (by omega) a ?_ ?_, b⟩
      · rw [nil (l := v.names) (by omega), nil (l := w.names) (by omega)]
      · rw [nil (l := v.parts) (by omega), nil (l := w.parts) (by omega)]
    rw [if_neg e2, if_neg e2, List.append_assoc, List.append_assoc] at h
    obtain ⟨a, h⟩ := putN_inj (by omega) (by omega) h
    unfold encL at h
    obtain ⟨q1, q2, q3⟩ := zipIdx_inj (fun x hx => hB.name x hx) (fun x hx => hB'.name x hx) (by omega) (fun p hp q hq u z hu => by
      obtain ⟨a1, b1, g1⟩ := chkL_all c1 p hp
      obtain ⟨a2, b2, g2⟩ := chkL_all c2 q hq
      exact ih p (Val.part_lt hp) ⟨hB.part p hp, _, _, _, g1⟩ ⟨hB'.part q hq, _, _, _, g2⟩ hu) h
    refine ⟨ext (by omega) (by rw [nil (l := v.bytes) (by omega), nil (l := w.bytes) (by omega)]) ?_ q1, q3⟩
    by_cases e4 : v.kind = 4
    · have l1 : v.names.length = v.parts.length := by omega
      have l2 : w.names.length = w.parts.length := by omega
      refine List.ext_getElem (by omega) fun j h1 h2 => ?_
      have := q2 e4 j (by omega) (by omega)
      rwa [List.getD_eq_getElem?_getD, List.getD_eq_getElem?_getD, List.getElem?_eq_getElem h1, List.getElem?_eq_getElem h2] at this
    · rw [nil (l := v.names) (by omega), nil (l := w.names) (by omega)]
theorem good_of {v : Val} (hB : VB 1048576 v) (h : (vfault v).1 = 0) : VGood v := by
  refine ⟨hB, 0, 0, ?_⟩
  unfold vfault at h
  split at h
  · rename_i e he
    exact absurd h (scan_error he)
  · rename_i m he
    exact ⟨m, he⟩
theorem enc_eq_iff {v w : Val} (hB : VB 1048576 v) (h : (vfault v).1 = 0) (hB' : VB 1048576 w) (h' : (vfault w).1 = 0) : enc v = enc w ↔ v = w :=
  ⟨fun e => (enc_inj v (x := []) (y := []) (good_of hB h) (good_of hB' h') (by rw [e])).1, fun e => by rw [e]⟩
theorem compareBytes_zero : ∀ (a b : List UInt8), Lib.compareBytes a b = 0 ↔ a = b
  | [], [] => by simp [Lib.compareBytes]
  | [], _ :: _ => by simp [Lib.compareBytes]
  | _ :: _, [] => by simp [Lib.compareBytes]
  | a :: xs, b :: ys => by
    unfold Lib.compareBytes
    by_cases h1 : a < b
    · rw [if_pos h1]
      constructor
      · intro h; cases h
      · intro h
        injection h with h2 _
        subst h2
        exact absurd h1 (by simp)
    · rw [if_neg h1]
      by_cases h2 : b < a
      · rw [if_pos h2]
        constructor
        · intro h; cases h
        · intro h
          injection h with h3 _
          subst h3
          exact absurd h2 (by simp)
      · rw [if_neg h2, compareBytes_zero xs ys]
        have e : a = b := UInt8.le_antisymm (UInt8.not_lt.1 h2) (UInt8.not_lt.1 h1)
        rw [e]
        simp
theorem run_bytesOf {P : Program} {w : World} {s : Sl} {l : List UInt8} (h : Byt w s l) : (Extern.Bytes.bytesOf s.v).run P w = .ok ⟨l.toArray⟩ w := by
  obtain ⟨a, n, c⟩ := s
  have hn : n = l.length := h.len
  have hc : Cells w a (l.flatMap byC) := h.cells
  rw [byC_map] at hc
  cases a with
  | none =>
    have : l = [] := by
      cases l with
      | nil => rfl
      | cons x r =>
        have := hc.1 (by simp)
        cases this
    subst this
    rfl
  | some p =>
    have hl := Lib.run_loadBytesX (P := P) w (l.map fun b => (b.toNat : Int)) p .empty (fun j x hj => by
      rw [List.getElem?_map] at hj
      cases hb : l[j]? with
      | none => rw [hb] at hj; cases hj
      | some b =>
        rw [hb] at hj
        cases hj
        have hp : (some p : Option Addr) = some ⟨ablk (some p), aoff (some p), none⟩ := hc.1 (by rintro e; rw [List.map_eq_nil_iff] at e; rw [e] at hb; cases hb)
        have hp2 : p = ⟨ablk (some p), aoff (some p), none⟩ := Option.some.inj hp
        have e : p.add j = ⟨ablk (some p), aoff (some p) + j, none⟩ := by
          conv => lhs; rw [hp2]
          exact addr_add _ _ j
        rw [e]
        exact hc.2 j _ (by rw [List.getElem?_map, hb]; rfl))
    rw [List.length_map, ← hn] at hl
    show (Extern.Bytes.loadBytes p n .empty).run P w = _
    rw [hl]
    congr 1
    apply ByteArray.ext
    show (#[] : Array UInt8) ++ (Lib.bytesOf (l.map fun b => (b.toNat : Int))).toArray = l.toArray
    have : Lib.bytesOf (l.map fun b => (b.toNat : Int)) = l := by
      unfold Lib.bytesOf
      rw [List.map_map]
      conv => rhs; rw [← List.map_id l]
      exact List.map_congr_left fun x _ => by simp
    rw [this]
    simp
theorem run_compare {P : Program} {w : World} {x y : Sl} {a b : List UInt8} (hx : Byt w x a) (hy : Byt w y b) : (Extern.BytealgCompare.compare #[x.v, y.v]).run P w = .ok (iv (Lib.compareBytes a b)) w := by
  change Sem.run P (do pure (goInt (Extern.BytealgCompare.cmp (← Extern.Bytes.bytesOf x.v) (← Extern.Bytes.bytesOf y.v)))) w = _
  simp only [Sem.run_bind, Sem.run_pure, run_bytesOf hx, run_bytesOf hy, Result.andThen]
  rw [Lib.cmp_eq]
  rfl
set_option maxHeartbeats 1000000 in
set_option maxRecDepth 100000 in
theorem sh_bytes_Compare {w : World} {x y : Sl} {a b : List UInt8} (hx : Byt w x a) (hy : Byt w y b) : Calls Tryz.prog 64 #[x.v, y.v] w fun e w' => e = .returned (iv (Lib.compareBytes a b)) ∧ w' = w := by
  go_enter Tryz.func64, Tryz.ntmps64
  go_wp2
  rw [run_callFunc_extern Tryz.func88 (by kernel_rfl) (by kernel_rfl) (by kernel_rfl) (e := Extern.BytealgCompare.compare) (by kernel_rfl), run_compare hx hy]
  simp only [Result.andThen]
  rw [Oper.upon_value]
  go_wp2
  go_ret
  exact ⟨rfl, rfl⟩
theorem compare_bytes {V W : World} (hV : Sub V W) {x y : Sl} {a b : List UInt8} (hx : Byt V x a) (hy : Byt V y b) : Ret Tryz.prog 64 [x.v, y.v].toArray W fun v w' => v = iv (Lib.compareBytes a b) ∧ Rel W V [] V w' :=
  Ret.ofCalls Tryz.func64 (by kernel_rfl) (by kernel_rfl) (Calls.mono' (sh_bytes_Compare (hx.up hV) (hy.up hV)) fun e w' ⟨he, hw⟩ => ⟨_, he, rfl, by rw [hw]; exact Rel.start hV⟩)
section
variable {V W : World}
set_option maxRecDepth 100000 in
set_option maxHeartbeats 1000000 in
theorem compare_value (hV : Sub V W) {h g : VH} {v u : Val} (hv : ValAt V h v) (hu : ValAt V g u) (hB : VB 1048576 v) (hB' : VB 1048576 u) (hf : (vfault v).1 = 0) (hf' : (vfault u).1 = 0) : Ret Tryz.prog 38 [valV h, valV g].toArray W fun q w' => ∃ (V' : World) (c : Int), Sub V V' ∧ Rel W V [] V' w' ∧ q = .tuple #[iv c, faultV 0 0] ∧ (c = 0 ↔ v = u) := by
  have H := Rel.start hV
  have hv0 := hv
  have hu0 := hu
  obtain ⟨k, n, bs, ss, pl⟩ := h
  obtain ⟨k', n', bs', ss', pl'⟩ := g
  change Ret Tryz.prog 38 [.agg [iv k, iv n, bs.v, ss.v, pl.v].toArray, .agg [iv k', iv n', bs'.v, ss'.v, pl'.v].toArray].toArray W _
  refine cal_of_vc tabOk Tryz.func38 rfl (by kernel_rfl) 31 rfl (by simp) [0, 1, 2, 3, 4, 5, 6, 7, 8, 16, 25] ?_
  (first | (refine H.wh ?_; clear H; intros; rename_i w H; constructor) | refine wk ?_)
  ((first | refine Rel.nwD H ?_ | refine Rel.nw H ?_); clear H; intro w b2 H)
  (first | (refine H.wh ?_; clear H; intros; rename_i w H; constructor) | refine wk ?_)
  ((first | refine Rel.nwD H ?_ | refine Rel.nw H ?_); clear H; intro w b3 H)
  (first | (refine H.wh ?_; clear H; intros; rename_i w H; constructor) | refine wk ?_)
  ((first | refine Rel.nwD H ?_ | refine Rel.nw H ?_); clear H; intro w b5 H)
  (first | (refine H.wg ?_; clear H; intros; rename_i w H; constructor) | refine wk ?_)
  refine (encodeV_spec H.data hv0 hB).use ?_
  rintro q w ⟨V2, r2, hV2, K, rfl, hr2⟩
  (have hKb := K.base; replace H := H.call0 K)
  rw [vfault_zz hf] at hr2 ⊢
  obtain ⟨_, hr2⟩ := hr2.resolve_left fun h => h.1 rfl
  (first | (refine H.wh ?_; clear H; intros; rename_i w H; constructor) | refine wk ?_)
  ((first | refine Rel.nwD H ?_ | refine Rel.nw H ?_); clear H; intro w b7 H)
  (first | (refine H.wg ?_; clear H; intros; rename_i w H; constructor) | refine wk ?_)
  refine (encodeV_spec H.data (hu0.up hV2) hB').use ?_
  rintro q w ⟨V3, r3, hV3, K, rfl, hr3⟩
  (have hKb := K.base; replace H := H.call0 K)
  rw [vfault_zz hf'] at hr3 ⊢
  obtain ⟨_, hr3⟩ := hr3.resolve_left fun h => h.1 rfl
  (first | (refine H.wg ?_; clear H; intros; rename_i w H; constructor) | refine wk ?_)
  refine (compare_bytes H.data (hr2.up hV3) hr3).use ?_
  rintro q w ⟨rfl, K⟩
  (have hKb := K.base; replace H := H.call0 K)
  (first | (refine H.wg ?_; clear H; intros; rename_i w H; constructor) | refine wk ?_)
  exact ⟨V3, _, hV2.trans hV3, H.sx, rfl, by rw [compareBytes_zero, enc_eq_iff hB hf hB' hf']⟩
end
end Go.Proofs.YtffaffojkfalhaaGreatDoor
