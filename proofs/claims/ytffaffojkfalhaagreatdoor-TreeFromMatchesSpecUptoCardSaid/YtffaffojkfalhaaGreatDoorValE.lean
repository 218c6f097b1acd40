/-
  Plain values: encode, Encode, Validate.
-/
import Derived.Test.YtffaffojkfalhaaGreatDoorValC
import Derived.Test.YtffaffojkfalhaaGreatDoorWirC
namespace Go.Proofs.YtffaffojkfalhaaGreatDoor
open Go Go.RowKit

theorem encL_append (k : Int) (s : List (List UInt8)) (a b : List Val) : encL k s (a ++ b) = encL k s a ++ (b.zipIdx a.length).flatMap fun p => (if k = 4 then putC (s.getD p.2 []) else []) ++ enc p.1 := by
  unfold encL
  rw [List.zipIdx_append, List.flatMap_append]
  simp
theorem encL_le (k : Int) (s : List (List UInt8)) (ps : List Val) (i : Nat) : (encL k s (ps.take i)).length ≤ (encL k s ps).length := by
  conv => rhs; rw [← List.take_append_drop i ps, encL_append, List.length_append]
  omega
theorem enc_part_le {k : Int} {s : List (List UInt8)} {ps : List Val} {i : Nat} (hi : i < ps.length) : (encL k s (ps.take i)).length + (((if k = 4 then putC (s.getD i []) else []) : List UInt8).length + (enc ps[i]).length) ≤ (encL k s ps).length := by
  have := encL_le k s ps (i + 1)
  rw [List.take_succ_eq_append_getElem hi, encL_snoc] at this
  simp only [List.length_append, List.length_take] at this
  rw [show min i ps.length = i by omega] at this
  exact this
set_option maxRecDepth 100000 in
set_option maxHeartbeats 1000000 in
theorem encode_value : ∀ (N : Nat) {V W : World}, Sub V W → ∀ {h : VH} {v : Val} {n d m : Nat}, SizeOf.sizeOf v < N → ValAt V h v → VB 1048576 v → chk d v n = .ok m → (enc v).length ≤ 1099511627000 →
    Ret Tryz.prog 76 [valV h].toArray W fun q w' => ∃ r : Sl, q = r.v ∧ Rel W V [.row r 5 1 ((enc v).flatMap byC)] V w' := by
  intro N
  induction N with
  | zero => intro V W _ h v n d m hs; omega
  | succ N ih =>
    intro V W hV h v n d m hs hv hB hok hlen
    have H := Rel.start hV
    have l3 := hv.plen
    have hpl := hB.parts
    have hbl := hB.bytes
    have hns := hv.names
    have hn64 := hB.num
    have hk64 := hB.kind
    obtain ⟨_, _, hr, hf, h600, hna, _, hpo⟩ := chk_ok hok
    have he := enc_eq v
    have hel := congrArg List.length he
    have e1 := hv.kind
    have e2 := hv.num
    obtain ⟨hk, hn, bs, ss, pl⟩ := h
    have l2 := hns.len
    dsimp only at e1 e2 l2 l3 hns
    subst e1 e2
    have hbs := hv.bytes
    have p1 := putN_len hk64.1 hk64.2
    change Ret Tryz.prog 76 [.agg [iv v.kind, iv v.num, bs.v, ss.v, pl.v].toArray].toArray W _
    refine cal_of_vc tabOk Tryz.func76 rfl (by kernel_rfl) 57 rfl (by simp) [0, 1, 2, 3, 4, 5, 10, 11, 18, 32, 33, 34, 35, 41] ?_
    (first | (refine H.wh ?_; clear H; intros; rename_i w H; constructor) | refine wk ?_)
    ((first | refine Rel.nwD H ?_ | refine Rel.nw H ?_); clear H; intro w b1 H)
    (first | (refine H.wg ?_; clear H; intros; rename_i w H; constructor) | refine wk ?_)
    refine (number_spec (n := v.kind) H.data hk64).use ?_
    rintro q w ⟨r, rfl, K⟩
    (have hKb := K.base; replace H := Rel.call H K)
    simp only [List.cons_append, List.nil_append] at H
    by_cases k1 : v.kind = 1
    · rw [if_pos k1] at he hel
      simp only [List.length_append] at hel
      (first | (refine H.wg ?_; clear H; intros; rename_i w H; constructor) | refine wk ?_)
      refine (number_spec (n := v.num) H.data hn64).use ?_
      rintro q w ⟨r1, rfl, K⟩
      (have hKb := K.base; replace H := Rel.call H K)
      simp only [List.cons_append, List.nil_append] at H
      (first | (refine H.wg ?_; clear H; intros; rename_i w H; constructor) | refine wk ?_)
      refine Rel.appB H (i := 0) rfl (by omega) ?_
      clear H
      intro rn w H
      (first | (refine H.wg ?_; clear H; intros; rename_i w H; constructor) | refine wk ?_)
      exact ⟨rn, rfl, by rw [he]; exact H.sx⟩
    rw [if_neg k1] at he hel
    by_cases k2 : v.kind = 2
    · rw [if_pos k2] at he hel
      simp only [List.length_append] at hel
      (first | (refine H.wg ?_; clear H; intros; rename_i w H; constructor) | refine wk ?_)
      refine (chunk_spec H.data hbs (by omega)).use ?_
      rintro q w ⟨r1, rfl, K⟩
      (have hKb := K.base; replace H := Rel.call H K)
      simp only [List.cons_append, List.nil_append] at H
      (first | (refine H.wg ?_; clear H; intros; rename_i w H; constructor) | refine wk ?_)
      refine Rel.appB H (i := 0) rfl (by omega) ?_
      clear H
      intro rn w H
      (first | (refine H.wg ?_; clear H; intros; rename_i w H; constructor) | refine wk ?_)
      exact ⟨rn, rfl, by rw [he]; exact H.sx⟩
    rw [if_neg k2, ← List.append_assoc] at he
    rw [if_neg k2] at hel
    simp only [List.length_append] at hel
    (first | (refine H.wg ?_; clear H; intros; rename_i w H; constructor) | refine wk ?_)
    rw [l3]
    refine (number_spec (n := v.parts.length) H.data (by constructor <;> omega)).use ?_
    rintro q w ⟨r1, rfl, K⟩
    (have hKb := K.base; replace H := Rel.call H K)
    simp only [List.cons_append, List.nil_append] at H
    (first | (refine H.wg ?_; clear H; intros; rename_i w H; constructor) | refine wk ?_)
    refine Rel.appB H (i := 0) rfl (by omega) ?_
    clear H
    intro r w H
    (first | (refine H.wg ?_; clear H; intros; rename_i w H; constructor) | refine wk ?_)
    refine loop_inv (S := Nat × Sl) tabOk [0, 1, 2, 10, 11, 18, 32, 33] (fun k => [(3, k.2.v), (34, iv k.1)]) (fun k w' => k.1 ≤ v.parts.length ∧ Rel W V [.row k.2 5 1 ((putN v.kind ++ putN v.parts.length ++ encL v.kind v.names (v.parts.take k.1)).flatMap byC), .blk b1 [iv v.kind, iv v.num, bs.v, ss.v, pl.v] 27] V w') (fun k _ => v.parts.length - k.1) (0, r) ?_
    (conv => whnf)
    refine ⟨(by repeat (first | exact trivial | refine ⟨rfl, ?_⟩)), ⟨by omega, by simp only [List.take_zero, encL_nil, List.append_nil]; exact H⟩, ?_⟩
    clear H
    rintro ⟨k, r⟩ w ⟨hk, H⟩
    dsimp only at hk H
    by_cases hlt : k < v.parts.length
    rotate_left
    · rw [List.take_of_length_le (by omega), ← he] at H
      (first | (refine H.wg ?_; clear H; intros; rename_i w H; constructor) | refine wk ?_)
      exact ⟨r, rfl, H.sx⟩
    obtain ⟨hp, x, hx, q0, q1, q2, q3, q4⟩ := hv.part5 hlt
    have hmem := List.getElem_mem hlt
    have hle := enc_part_le (k := v.kind) (s := v.names) hlt
    obtain ⟨a', m', hsub⟩ := chkL_all hpo _ hmem
    have hsn := encL_snoc v.kind v.names (v.parts.take k) v.parts[k]
    rw [← List.take_succ_eq_append_getElem hlt, List.length_take, show min k v.parts.length = k by omega] at hsn
    (first | (refine H.wh ?_; clear H; intros; rename_i w H; constructor) | refine wk ?_)
    ((first | refine Rel.nwD H ?_ | refine Rel.nw H ?_); clear H; intro w b5 H)
    by_cases k4 : v.kind = 4
    · rw [if_pos k4] at hsn hle
      unfold formBad at hf
      have hkn : k < v.names.length := by omega
      obtain ⟨hp', hq'⟩ := hns.get1 (g := str) (fun _ => rfl) hkn
      have hnl := nameOk_len (hna _ (List.getElem_mem hkn))
      have hgd : v.names.getD k [] = v.names[k] := by simp [List.getD, hkn]
      rw [hgd] at hsn hle
      (first | (refine H.wg ?_; clear H; intros; rename_i w H; constructor) | refine wk ?_)
      refine Rel.convSB Tryz.underlying9 Tryz.underlying22 Tryz.underlying5 H v.names[k] ?_
      clear H
      intro V1 s1 w he hV1 hs1 H
      (first | (refine H.wg ?_; clear H; intros; rename_i w H; constructor) | refine wk ?_)
      refine (chunk_spec H.data hs1 (by omega)).use ?_
      rintro q w ⟨r1, rfl, K⟩
      (have hKb := K.base; replace H := Rel.call H K)
      simp only [List.cons_append, List.nil_append] at H
      replace H := H.back
      (first | (refine H.wg ?_; clear H; intros; rename_i w H; constructor) | refine wk ?_)
      refine Rel.appB H (i := 1) rfl (by simp only [List.length_append]; omega) ?_
      clear H
      intro r w H
      (first | (refine H.wg ?_; clear H; intros; rename_i w H; constructor) | refine wk ?_)
      refine (ih H.data (by have := Val.part_lt hmem; omega) hx (hB.part _ hmem) hsub (by omega)).use ?_
      rintro q w ⟨r1, rfl, K⟩
      (have hKb := K.base; replace H := Rel.call H K)
      simp only [List.cons_append, List.nil_append] at H
      (first | (refine H.wg ?_; clear H; intros; rename_i w H; constructor) | refine wk ?_)
      refine Rel.appB H (i := 1) rfl (by simp only [List.length_append]; omega) ?_
      clear H
      intro r w H
      (first | (refine H.wg ?_; clear H; intros; rename_i w H; constructor) | refine wk ?_)
      refine ⟨(by repeat (first | exact trivial | refine ⟨rfl, ?_⟩)), (k + 1, r), (by repeat (first | exact trivial | refine ⟨rfl, ?_⟩)), ⟨by omega, ?_⟩, by dsimp only; omega⟩
      dsimp only
      rw [hsn]
      simp only [List.append_assoc] at H ⊢
      exact H.sx
    · rw [if_neg k4] at hsn hle
      (first | (refine H.wg ?_; clear H; intros; rename_i w H; constructor) | refine wk ?_)
      refine (ih H.data (by have := Val.part_lt hmem; omega) hx (hB.part _ hmem) hsub (by omega)).use ?_
      rintro q w ⟨r1, rfl, K⟩
      (have hKb := K.base; replace H := Rel.call H K)
      simp only [List.cons_append, List.nil_append] at H
      (first | (refine H.wg ?_; clear H; intros; rename_i w H; constructor) | refine wk ?_)
      refine Rel.appB H (i := 1) rfl (by simp only [List.length_append]; omega) ?_
      clear H
      intro r w H
      (first | (refine H.wg ?_; clear H; intros; rename_i w H; constructor) | refine wk ?_)
      refine ⟨(by repeat (first | exact trivial | refine ⟨rfl, ?_⟩)), (k + 1, r), (by repeat (first | exact trivial | refine ⟨rfl, ?_⟩)), ⟨by omega, ?_⟩, by dsimp only; omega⟩
      dsimp only
      rw [hsn]
      simp only [List.append_assoc, List.nil_append] at H ⊢
      exact H.sx
end Go.Proofs.YtffaffojkfalhaaGreatDoor
namespace Go.Proofs.YtffaffojkfalhaaGreatDoor
open Go Go.RowKit

theorem pre_VB {B : Nat} (v : Val) : ∀ {d : Nat}, VB B v → ∀ p ∈ pre d v, VB B p.1 := by
  induction v using (measure (fun v : Val => SizeOf.sizeOf v)).wf.induction with
  | _ v ih =>
    intro d hB p hp
    rw [pre_eq] at hp
    rcases List.mem_cons.1 hp with rfl | hp
    · exact hB
    · split at hp
      · simp at hp
      · obtain ⟨q, hq, hp⟩ := List.mem_flatMap.1 hp
        have hq := List.mem_of_mem_take hq
        exact ih q (Val.part_lt hq) (hB.part q hq) p hp
theorem names_sum {l : List (List UInt8)} (h : ∀ s ∈ l, nameOk s = true) : (l.map fun s => 1 + s.length).sum ≤ l.length * 33 := by
  induction l with
  | nil => simp
  | cons s l ih =>
    have h1 := nameOk_len (h s (by simp))
    have h2 := ih fun x hx => h x (by simp [hx])
    simp only [List.map_cons, List.sum_cons, List.length_cons]
    omega
theorem nodeSzX_le {v : Val} (hB : VB 1048576 v) (h : nodeCode v = 0) : nodeSzX v ≤ 1100000 := by
  obtain ⟨h1, h2, h3, h4, _⟩ := nodeCode_zero h
  have hn := hB.num
  have hb := hB.bytes
  unfold formBad at h2
  have a1 := putN_len hn.1 hn.2
  have a2 := putN_len (n := v.bytes.length) (by omega) (by omega)
  have a3 := putN_len (n := v.parts.length) (by omega) (by omega)
  have a4 := names_sum h4
  unfold nodeSzX
  split
  · omega
  · split
    · rw [putC, List.length_append]; omega
    · have : v.names.length ≤ 600 := by omega
      have := Nat.mul_le_mul_right 33 this
      omega
theorem sum_le {l : List (Val × Nat)} (h : ∀ p ∈ l, nodeSzX p.1 ≤ 1100000) : szX l ≤ l.length * 1100000 := by
  induction l with
  | nil => simp [szX]
  | cons p l ih =>
    have h1 := h p (by simp)
    have h2 := ih fun q hq => h q (by simp [hq])
    simp only [szX, List.map_cons, List.sum_cons, List.length_cons] at h2 ⊢
    omega
theorem enc_small {v : Val} {n d m : Nat} (hB : VB 1048576 v) (h : chk d v n = .ok m) : (enc v).length ≤ 1000000000 := by
  rw [enc_len v h]
  obtain ⟨h1, h2⟩ := scan_bounds _ _ _ h
  have h3 := chk_ub h
  have := sum_le (l := pre d v) fun p hp => by
    obtain ⟨i, hi, rfl⟩ := List.getElem_of_mem hp
    refine nodeSzX_le (pre_VB v hB _ (List.getElem_mem hi)) ?_
    have := h2 i _ _ (List.getElem?_eq_getElem hi)
    unfold atCode at this
    split at this
    · cases this
    · exact this
  have h4 : (pre d v).length ≤ 600 := by omega
  have := Nat.mul_le_mul_right 1100000 h4
  omega
theorem vfault_zz {v : Val} (h : (vfault v).1 = 0) : vfault v = (0, 0) := by
  unfold vfault at h ⊢
  split at h
  · rename_i e he
    exact absurd h (scan_error he)
  · split at h
    · cases h
    · rename_i h1; rw [if_neg h1]
section
variable {V W : World}
set_option maxRecDepth 100000 in
theorem encodeV_spec (hV : Sub V W) {h : VH} {v : Val} (hv : ValAt V h v) (hB : VB 1048576 v) : Ret Tryz.prog 47 [valV h].toArray W fun q w' => ∃ (V' : World) (r : Sl), Sub V V' ∧ Rel W V [] V' w' ∧ q = .tuple #[r.v, faultV (vfault v).1 (vfault v).2] ∧ ((vfault v).1 ≠ 0 ∧ r = ⟨none, 0, 0⟩ ∨ (vfault v).1 = 0 ∧ Byt V' r (enc v)) := by
  have H := Rel.start hV
  refine cal_of_vc tabOk Tryz.func47 rfl (by kernel_rfl) 24 rfl (by simp) [0, 1, 2, 3, 5, 6, 14, 20] ?_
  (first | (refine H.wh ?_; clear H; intros; rename_i w H; constructor) | refine wk ?_)
  ((first | refine Rel.nwD H ?_ | refine Rel.nw H ?_); clear H; intro w b1 H)
  (first | (refine H.wh ?_; clear H; intros; rename_i w H; constructor) | refine wk ?_)
  ((first | refine Rel.nwD H ?_ | refine Rel.nw H ?_); clear H; intro w b3 H)
  (first | (refine H.wg ?_; clear H; intros; rename_i w H; constructor) | refine wk ?_)
  refine (check_spec (SizeOf.sizeOf v + 1) (n := 0) (d := 0) H.data (Nat.lt_succ_self _) hv (hB.mono (by omega)) (by omega) (by omega)).use ?_
  rintro q w ⟨hq, K⟩
  (have hKb := K.base; replace H := H.call0 K)
  cases hc : chk 0 v 0 with
  | error e =>
    rw [hc] at hq
    obtain ⟨rfl, hne⟩ := hq
    have hvf : vfault v = e := by rw [vfault, hc]
    rw [hvf]
    (first | (refine H.wh ?_; clear H; intros; rename_i w H; constructor) | refine wk ?_)
    ((first | refine Rel.nwD H ?_ | refine Rel.nw H ?_); clear H; intro w b5 H)
    (first | (refine H.wg ?_; clear H; intros; rename_i w H; constructor) | refine wk ?_)
    ((first | refine draw_vc (id := 3) tabOk mixed [] [0, 1, 2] (by kernel_rfl) ?_); intro w hdw; replace H := Rel.ext H hdw.ext)
    (first | (refine H.wg ?_; clear H; intros; rename_i w H; constructor) | refine wk ?_)
    exact ⟨V, ⟨none, 0, 0⟩, Sub.refl _, H.sx, rfl, .inl ⟨hne, rfl⟩⟩
  | ok m =>
    rw [hc] at hq
    have hq : q = .tuple #[iv m, faultV 0 0] := hq
    subst hq
    have hsm := enc_small hB hc
    (first | (refine H.wh ?_; clear H; intros; rename_i w H; constructor) | refine wk ?_)
    ((first | refine Rel.nwD H ?_ | refine Rel.nw H ?_); clear H; intro w b5 H)
    (first | (refine H.wg ?_; clear H; intros; rename_i w H; constructor) | refine wk ?_)
    refine (encode_value (SizeOf.sizeOf v + 1) H.data (Nat.lt_succ_self _) hv hB hc (by omega)).use ?_
    rintro q w ⟨r, rfl, K⟩
    (have hKb := K.base; replace H := Rel.call H K)
    simp only [List.cons_append, List.nil_append] at H
    obtain ⟨V2, hV2, H, hr⟩ := Rel.freezeF H (fun _ => rfl) (by decide)
    have hrl := hr.len
    by_cases h4 : 4000 < (enc v).length
    · have hvf : vfault v = (14, -1) := by rw [vfault, hc]; simp only; rw [if_pos h4]
      rw [hvf]
      (first | (refine H.wg ?_; clear H; intros; rename_i w H; constructor) | refine wk ?_)
      refine (fault_value H.data 14 (-1)).use ?_
      rintro q w ⟨rfl, K⟩
      (have hKb := K.base; replace H := H.call0 K)
      (first | (refine H.wg ?_; clear H; intros; rename_i w H; constructor) | refine wk ?_)
      exact ⟨V2, ⟨none, 0, 0⟩, hV2, H.sx, rfl, .inl ⟨by show (14 : Int) ≠ 0; decide, rfl⟩⟩
    · have hvf : vfault v = (0, 0) := by rw [vfault, hc]; simp only; rw [if_neg h4]
      rw [hvf]
      (first | (refine H.wg ?_; clear H; intros; rename_i w H; constructor) | refine wk ?_)
      exact ⟨V2, r, hV2, H.sx, rfl, .inr ⟨rfl, hr⟩⟩
set_option maxRecDepth 100000 in
theorem validate_value (hV : Sub V W) {h : VH} {v : Val} (hv : ValAt V h v) (hB : VB 1048576 v) : Ret Tryz.prog 26 [valV h].toArray W fun q w' => q = faultV (vfault v).1 (vfault v).2 ∧ Rel W V [] V w' := by
  have H := Rel.start hV
  refine cal_of_vc tabOk Tryz.func26 rfl (by kernel_rfl) 11 rfl (by simp) [0, 1, 2, 4] ?_
  (first | (refine H.wh ?_; clear H; intros; rename_i w H; constructor) | refine wk ?_)
  ((first | refine Rel.nwD H ?_ | refine Rel.nw H ?_); clear H; intro w b1 H)
  (first | (refine H.wh ?_; clear H; intros; rename_i w H; constructor) | refine wk ?_)
  ((first | refine Rel.nwD H ?_ | refine Rel.nw H ?_); clear H; intro w b2 H)
  (first | (refine H.wg ?_; clear H; intros; rename_i w H; constructor) | refine wk ?_)
  refine (encodeV_spec H.data hv hB).use ?_
  rintro q w ⟨V2, r, hV2, K, rfl, _⟩
  (have hKb := K.base; replace H := H.call0 K)
  (first | (refine H.wh ?_; clear H; intros; rename_i w H; constructor) | refine wk ?_)
  ((first | refine Rel.nwD H ?_ | refine Rel.nw H ?_); clear H; intro w b4 H)
  (first | (refine H.wg ?_; clear H; intros; rename_i w H; constructor) | refine wk ?_)
  exact Rel.back H.sx
end
end Go.Proofs.YtffaffojkfalhaaGreatDoor
