/-
  Files of trees, the reference: TreeFile.
-/
import Derived.Test.YtffaffojkfalhaaGreatDoorTreV
import Derived.Test.YtffaffojkfalhaaGreatDoorTreH
namespace Go.Proofs.YtffaffojkfalhaaGreatDoor
open Go Go.RowKit

theorem strC_map (l : List (List UInt8)) : l.flatMap strC = l.map str := by
  induction l with
  | nil => rfl
  | cons x l ih => rw [List.flatMap_cons, ih]; rfl
theorem strC_put {bs : List (List UInt8)} {j : Nat} {b : List UInt8} (hj : j < bs.length) : (bs.flatMap strC).take j ++ ([str b] ++ (bs.flatMap strC).drop (j + [str b].length)) = (bs.set j b).flatMap strC := by
  rw [strC_map, strC_map, List.map_set, List.set_eq_take_append_cons_drop, if_pos (by rw [List.length_map]; exact hj)]
  rfl
theorem outB_len : ∀ (bs : List (List UInt8)) (ts : List Tok), (∀ b ∈ bs, b.length ≤ 100000000) → (outB bs ts).length ≤ lenT ts + 100000000 * ts.length
  | [], ts, _ => by simp [outB]
  | b :: bs, [], _ => by simp [outB]
  | b :: bs, t :: ts, h => by
    have h1 := h b (by simp)
    have h2 := outB_len bs ts fun x hx => h x (by simp [hx])
    simp only [outB, List.zip_cons_cons, List.flatMap_cons, List.length_append, lenT, List.map_cons, List.sum_cons, List.length_cons] at h2 ⊢
    omega
theorem lenT_take (ts : List Tok) (k : Nat) : lenT (ts.take k) ≤ lenT ts := by
  have := lenT_append (ts.take k) (ts.drop k)
  rw [List.take_append_drop] at this
  omega
theorem setB_small : ∀ (Z : List Blk2) (bs : List (List UInt8)), (∀ z ∈ Z, z.2.length ≤ 100000000) → (∀ b ∈ bs, b.length ≤ 100000000) → ∀ b ∈ Z.foldl setB bs, b.length ≤ 100000000
  | [], bs, _, h => h
  | z :: Z, bs, h1, h2 => setB_small Z (setB bs z) (fun x hx => h1 x (by simp [hx])) fun b hb => by
    rcases List.mem_or_eq_of_mem_set hb with hb | rfl
    · exact h2 b hb
    · exact h1 z (by simp)
section
variable {V W : World}
theorem app_nil_str {w : World} {ty : TypeId} {k : Value → World → Prop} (hk : k (.slice none 0 0) w) : SemOk Tryz.prog (Builtin.append_ #[22, 9] ty #[.slice none 0 0, str []]) w k := by
  obtain ⟨i, hi, hi1, hi2, hi3⟩ := (tabOk _ _ (show tab[5]? = some _ from rfl)).info
  have hsrc := Src.ofString w Tryz.underlying9 ⟨([] : List UInt8).toArray⟩
  have q1 := hsrc.len
  refine .of ?_ hk
  simp [Builtin.append_, run_underlying Tryz.underlying22, run_underlying Tryz.underlying9, sizeOf, typeInfo, hi, Builtin.lenOf, Builtin.firstCells]
  exact if_pos rfl
set_option maxRecDepth 100000 in
set_option maxHeartbeats 4000000 in
theorem trrFile_g (hV : Sub V W) {h : VH} {v : Val} (hv : ValAt V h v) (hB : VB 1048576 v) (hvf : (vfault v).1 = 0) (_ : (treShape v).isSome = true) {s : Sl} {b : List UInt8} (hs : Byt V s b) (hl : b.length ≤ 100000000) : Ret Tryz.prog 17 [valV h, s.v].toArray W (FrG W V (treMake v b)) := by
  have H := Rel.start hV
  have hlen := hs.len
  have hv0 := hv
  obtain ⟨_, hck⟩ := vfault_chk hvf
  have hw := wf_of hB hck
  have hroom := room_of hw hB hck
  obtain ⟨T, hT⟩ : ∃ T, T = tokV v ++ [[]] := ⟨_, rfl⟩
  obtain ⟨U, hU⟩ : ∃ U, U = wants false (tokV v) ++ [[10]] := ⟨_, rfl⟩
  rw [← hT] at hroom
  obtain ⟨hr1, hr2⟩ := hroom
  simp only [List.length_nil, Nat.zero_add] at hr1 hr2
  have hTl : T.length = (tokV v).length + 1 := by rw [hT, List.length_append]; rfl
  have hUl : U.length = T.length := by rw [hU, List.length_append, wants_len, hTl]; rfl
  have hUs : ∀ u ∈ U, u.length ≤ 100000000 := by
    intro u hu
    rw [hU] at hu
    rcases List.mem_append.1 hu with hu | hu
    · have key : ∀ (ts : List Tok) (sp : Bool), ∀ u ∈ wants sp ts, u.length ≤ 1 := by
        intro ts
        induction ts with
        | nil => intro sp u hu; simp [wants] at hu
        | cons t ts ih =>
          intro sp u hu
          rw [wants] at hu
          rcases List.mem_cons.1 hu with rfl | hu
          · unfold wantB; split <;> simp
          · exact ih _ u hu
      have := key _ _ u hu
      omega
    · rw [List.mem_singleton.1 hu]
      simp
  obtain ⟨kd, nn, bs, ss, pl⟩ := h
  change Ret Tryz.prog 17 [.agg [iv kd, iv nn, bs.v, ss.v, pl.v].toArray, s.v].toArray W _
  refine cal_of_sem tabOk Tryz.func17 rfl (by kernel_rfl) 101 rfl (by simp) [0, 1, 2, 4, 5, 6, 7, 8, 9, 11, 12, 13, 14, 15, 16, 19, 33, 43, 52, 66, 82] ?_
  refine SemC.seqGo tabOk ?_
  (first | (refine H.wh ?_; clear H; intros; rename_i w H; constructor) | refine wk ?_)
  ((first | refine Rel.nwD H ?_ | refine Rel.nw H ?_); clear H; intro w b2 H)
  (first | (refine H.wg ?_; clear H; intros; rename_i w H; constructor) | refine wk ?_)
  refine SemC.seqGo tabOk ?_
  (first | (refine H.wg ?_; clear H; intros; rename_i w H; constructor) | refine wk ?_)
  refine (trrGood_g H.data hs (by omega)).use ?_
  rintro q w ⟨rfl, K⟩
  (have hKb := K.base; replace H := Rel.call H K)
  simp only [List.nil_append] at H
  rw [treGood_iff]
  cases hrd : treRd b with
  | none =>
    rw [treMake_bad hrd]
    (first | (refine H.wg ?_; clear H; intros; rename_i w H; constructor) | refine wk ?_)
    exact ⟨V, ⟨none, 0, 0⟩, [], false, Sub.refl _, H.sx, rfl, SlF.nil _ _, rfl⟩
  | some Z =>
  obtain ⟨hb1, hZl, hZb, hZa⟩ := treRd_some hrd
  have hZ8 : ∀ x ∈ Z, x.2.length ≤ 100000000 := fun x hx => by have := rd_len hrd x hx; omega
  have hset := treOut_set hw hZa
  rw [← hT, ← hU] at hset
  obtain ⟨B, hBd⟩ : ∃ B, B = Z.foldl setB U := ⟨_, rfl⟩
  have hBl : B.length = T.length := by rw [hBd, setB_len, hUl]
  have hBs := setB_small Z U hZ8 hUs
  rw [← hBd] at hset hBs
  (first | (refine H.wg ?_; clear H; intros; rename_i w H; constructor) | refine wk ?_)
  refine SemC.seqGo tabOk ?_
  (first | (refine H.wg ?_; clear H; intros; rename_i w H; constructor) | refine wk ?_)
  refine (tokensOf_ref (SizeOf.sizeOf v + 1) H.data (h := ⟨kd, nn, bs, ss, pl⟩) (v := v) false (Nat.lt_succ_self _) hv0 hB hw (by omega)).use ?_
  rintro q w ⟨V2, x, y, hV2, K, rfl⟩
  (have hKb := K.base; replace H := Rel.call H K)
  simp only [List.cons_append, List.nil_append] at H
  (first | (refine H.wg ?_; clear H; intros; rename_i w H; constructor) | refine wk ?_)
  refine SemC.seqGo tabOk ?_
  (first | (refine H.wh ?_; clear H; intros; rename_i w H; constructor) | refine wk ?_)
  ((first | refine Rel.nwD H ?_ | refine Rel.nw H ?_); clear H; intro w b26 H)
  (first | (refine H.wg ?_; clear H; intros; rename_i w H; constructor) | refine wk ?_)
  refine Rel.appSB (i := 0) (s := x) (xs := tokV v) [[]] H rfl rfl (by simp only [List.length_cons, List.length_nil]; omega) ?_
  clear H
  intro x w H
  simp only [List.set_cons_zero, List.set_cons_succ] at H
  (first | (refine H.wg ?_; clear H; intros; rename_i w H; constructor) | refine wk ?_)
  refine SemC.seqGo tabOk ?_
  (first | (refine H.wh ?_; clear H; intros; rename_i w H; constructor) | refine wk ?_)
  ((first | refine Rel.nwD H ?_ | refine Rel.nw H ?_); clear H; intro w b29 H)
  (first | (refine H.wg ?_; clear H; intros; rename_i w H; constructor) | refine wk ?_)
  refine Rel.appSB (i := 1) (s := y) (xs := wants false (tokV v)) [[10]] H rfl rfl (by rw [wants_len]; simp only [List.length_cons, List.length_nil]; omega) ?_
  clear H
  intro y w H
  simp only [List.set_cons_zero, List.set_cons_succ] at H
  rw [← hT, ← hU] at H
  (first | (refine H.wg ?_; clear H; intros; rename_i w H; constructor) | refine wk ?_)
  refine SemC.seqCut tabOk (fun _ : Unit => [(1, s.v), (2, .pointer (some ⟨b2, 0, none⟩)), (4, .slice none 0 0), (5, .bool false), (6, x.v), (7, y.v)]) (fun _ w' => ∃ V4, Sub V2 V4 ∧ Rel W V [.row x 9 1 (T.flatMap strC), .row y 9 1 (B.flatMap strC), .blk b2 [iv kd, iv nn, bs.v, ss.v, pl.v] 27] V4 w') ?_ ?_
  · by_cases hb0 : b.length = 0
    · have hbn : b = [] := List.eq_nil_of_length_eq_zero hb0
      have hZn : Z = [] := by
        rw [hbn, show treRd [] = some [] by rw [treRd, if_pos rfl]] at hrd
        exact (Option.some.inj hrd).symm
      have hBU : B = U := by rw [hBd, hZn]; rfl
      (first | (refine H.wg ?_; clear H; intros; rename_i w H; constructor) | refine wk ?_)
      exact ⟨(), (by repeat (first | exact trivial | refine ⟨rfl, ?_⟩)), V2, Sub.refl _, by rw [hBU]; exact H.sx⟩
    · (first | (refine H.wg ?_; clear H; intros; rename_i w H; constructor) | refine wk ?_)
      refine (gaps_ref H.data (hs.up hV2) (by omega) (fun h => hb0 (by rw [h]; rfl))).use ?_
      rintro q w ⟨V3, px, py, kk, hV3, K, rfl, hres⟩
      (have hKb := K.base; replace H := Rel.call H K)
      simp only [List.nil_append] at H
      rw [hrd] at hres
      obtain ⟨rfl, hpx, hpy⟩ := hres
      have hpxl := hpx.len
      rw [List.length_map] at hpxl
      have hpyl := hpy.len
      rw [List.length_map] at hpyl
      (first | (refine H.wg ?_; clear H; intros; rename_i w H; constructor) | refine wk ?_)
      refine loop_inv (S := Nat) tabOk [0, 1, 2, 4, 5, 6, 7, 8, 9, 12, 13, 14, 15, 16, 19, 33, 66, 82] (fun j => [(11, iv (j : Int))]) (fun j w' => j ≤ Z.length ∧ Rel W V [.row x 9 1 (T.flatMap strC), .row y 9 1 (((Z.take j).foldl setB U).flatMap strC), .blk b2 [iv kd, iv nn, bs.v, ss.v, pl.v] 27] V3 w') (fun j _ => Z.length - j) 0 ?_
      (conv => whnf)
      refine ⟨(by repeat (first | exact trivial | refine ⟨rfl, ?_⟩)), ⟨Nat.zero_le _, H.sx⟩, ?_⟩
      clear H
      rintro j w ⟨hj, H⟩
      have hyl := H.rowLen (i := 1) rfl (fun _ => rfl) (by decide)
      rw [setB_len] at hyl
      by_cases hlt : j < Z.length
      rotate_left
      · rw [List.take_of_length_le (by omega), ← hBd] at H
        (first | (refine H.wg ?_; clear H; intros; rename_i w H; constructor) | refine wk ?_)
        exact ⟨(), (by repeat (first | exact trivial | refine ⟨rfl, ?_⟩)), V3, hV3, H.sx⟩
      obtain ⟨p0, c0⟩ := hpx.at1 (g := iv) (fun _ => rfl) (i := j) (by rw [List.length_map]; exact hlt)
      obtain ⟨p1, c1⟩ := hpy.at1 (g := str) (fun _ => rfl) (i := j) (by rw [List.length_map]; exact hlt)
      rw [List.getElem_map] at c0 c1
      have hz2 := (hZb _ (List.getElem_mem hlt)).1
      have htk := List.take_succ_eq_append_getElem hlt
      obtain ⟨z, hz⟩ : ∃ z, z = Z[j] := ⟨_, rfl⟩
      rw [← hz] at c0 c1 hz2 htk
      have hst : (Z.take (j + 1)).foldl setB U = ((Z.take j).foldl setB U).set z.1 z.2 := by rw [htk, List.foldl_append]; rfl
      by_cases hin : z.1 < U.length
      · obtain ⟨p3, _⟩ := (H.slfAt (i := 1) rfl (fun _ => rfl) (by decide)).at1 (g := str) (fun _ => rfl) (i := z.1) (by rw [setB_len]; exact hin)
        (first | (refine H.wg ?_; clear H; intros; rename_i w H; constructor) | refine wk ?_)
        ((first | refine draw_vc (id := 12) tabOk mixed [] [0, 1, 2, 3, 4, 5, 6, 7, 8, 9, 10] (by kernel_rfl) ?_ | refine draw_vc (id := 17) tabOk mixed [5] [0, 1, 2, 3, 4, 6, 7, 8, 9, 5, 10, 11] (by kernel_rfl) ?_); intro w hdw; replace H := Rel.ext H hdw.ext)
        (first | (refine H.wg ?_; clear H; intros; rename_i w H; constructor) | refine wk ?_)
        refine Rel.stRowL (i := 1) H rfl z.1 (l := [str z.2]) (by show z.1 + 1 ≤ y.len * 1; omega) rfl (by first | rfl | (show aoff y.a + ((z.1 : Nat) : Int).toNat * 1 = aoff y.a + z.1; omega)) (by simp) ?_
        clear H
        intro w H
        simp only [List.set_cons_zero, List.set_cons_succ] at H
        rw [strC_put (by rw [setB_len]; exact hin), ← hst] at H
        (first | (refine H.wg ?_; clear H; intros; rename_i w H; constructor) | refine wk ?_)
        exact ⟨(by repeat (first | exact trivial | refine ⟨rfl, ?_⟩)), j + 1, (by repeat (first | exact trivial | refine ⟨rfl, ?_⟩)), ⟨by omega, H⟩, by omega⟩
      · have hst2 : (Z.take (j + 1)).foldl setB U = (Z.take j).foldl setB U := by rw [hst, List.set_eq_of_length_le (by rw [setB_len]; omega)]
        (first | (refine H.wg ?_; clear H; intros; rename_i w H; constructor) | refine wk ?_)
        exact ⟨(by repeat (first | exact trivial | refine ⟨rfl, ?_⟩)), j + 1, (by repeat (first | exact trivial | refine ⟨rfl, ?_⟩)), ⟨by omega, by rw [hst2]; exact H⟩, by omega⟩
  clear H
  rintro _ w ⟨V4, hV4, H⟩
  obtain ⟨V5, hV5, H, hx⟩ := Rel.freezeF H (fun _ => rfl) (by decide)
  obtain ⟨V6, hV6, H, hy⟩ := Rel.freezeF H (fun _ => rfl) (by decide)
  replace hx := hx.up hV6
  have hV06 := ((hV2.trans hV4).trans hV5).trans hV6
  have hxl := hx.len
  have hyl := hy.len
  refine SemC.seqGo tabOk ?_
  (first | (refine H.wg ?_; clear H; intros; rename_i w H; constructor) | refine wk ?_)
  refine SemC.seqGo tabOk ?_
  (first | (refine H.wg ?_; clear H; intros; rename_i w H; constructor) | refine wk ?_)
  replace H := H.rowNil 5 1
  refine loop_inv (S := Nat × Sl) tabOk [0, 1, 2, 4, 5, 6, 7, 8, 9, 11, 14, 15, 16, 19, 33, 43, 52, 82] (fun z => [(12, z.2.v), (13, iv (z.1 : Int))]) (fun z w' => z.1 ≤ T.length ∧ (outB (B.take z.1) (T.take z.1) = [] → z.2 = ⟨none, 0, 0⟩) ∧ Rel W V [.row z.2 5 1 ((outB (B.take z.1) (T.take z.1)).flatMap byC), .blk b2 [iv kd, iv nn, bs.v, ss.v, pl.v] 27] V6 w') (fun z _ => T.length - z.1) (0, ⟨none, 0, 0⟩) ?_
  (conv => whnf)
  refine ⟨(by repeat (first | exact trivial | refine ⟨rfl, ?_⟩)), ⟨Nat.zero_le _, fun _ => rfl, H⟩, ?_⟩
  clear H
  rintro ⟨k, r⟩ w ⟨hk, hrn, H⟩
  dsimp only at hk hrn H ⊢
  have hol := outB_len (B.take k) (T.take k) fun b hb => hBs b (List.mem_of_mem_take hb)
  have hot := lenT_take T k
  rw [List.length_take] at hol
  obtain ⟨O, hO⟩ : ∃ O, O = outB (B.take k) (T.take k) := ⟨_, rfl⟩
  rw [← hO] at hrn hol H
  by_cases hlt : k < T.length
  rotate_left
  · rw [List.take_of_length_le (by omega), List.take_of_length_le (by omega), ← hset] at hO
    obtain ⟨V7, hV7, H, hr⟩ := Rel.freezeF H (fun _ => rfl) (by decide)
    have hrl := hr.len
    have hV07 := hV06.trans hV7
    (first | (refine H.wg ?_; clear H; intros; rename_i w H; constructor) | refine wk ?_)
    refine SemC.seqGo tabOk ?_
    by_cases hbig : 1000 < O.length
    · rw [treMake_no hrd (by rw [← hO]; intro h; omega)]
      (first | (refine H.wg ?_; clear H; intros; rename_i w H; constructor) | refine wk ?_)
      exact ⟨V7, ⟨none, 0, 0⟩, [], false, hV07, H.sx, rfl, SlF.nil _ _, rfl⟩
    (first | (refine H.wg ?_; clear H; intros; rename_i w H; constructor) | refine wk ?_)
    refine SemC.seqGo tabOk ?_
    (first | (refine H.wg ?_; clear H; intros; rename_i w H; constructor) | refine wk ?_)
    refine (trrTo_ref H.data hr (by omega)).use ?_
    rintro q w ⟨V9, h3, r3, v3, b3, hV79, K, hv3, hr3, hto⟩
    (have hKb := K.base; replace H := Rel.call H K)
    simp only [List.nil_append] at H
    have hV9 := hV07.trans hV79
    cases ht : treTo O with
    | none =>
      rw [ht] at hto
      dsimp only at hto
      subst hto
      (first | (refine H.wh ?_; clear H; intros; rename_i w H; constructor) | refine wk ?_)
      ((first | refine Rel.nwD H ?_ | refine Rel.nw H ?_); clear H; intro w b14 H)
      (first | (refine H.wg ?_; clear H; intros; rename_i w H; constructor) | refine wk ?_)
      refine SemC.seqGo tabOk ?_
      rw [(treMake_no hrd fun _ => by rw [← hO, ht]; simp)]
      (first | (refine H.wg ?_; clear H; intros; rename_i w H; constructor) | refine wk ?_)
      refine SemC.go tabOk ?_
      (first | (refine H.wg ?_; clear H; intros; rename_i w H; constructor) | refine wk ?_)
      exact ⟨V9, r, O, false, hV9, H.sx, rfl, hr.up hV79, rfl⟩
    | some yy =>
      obtain ⟨vv, rr⟩ := yy
      rw [ht] at hto
      obtain ⟨rfl, hto⟩ := hto
      have z1 : vv = v3 := congrArg Prod.fst hto
      have z2 : rr = b3 := congrArg Prod.snd hto
      subst z1 z2
      obtain ⟨hVB, _⟩ := tre_valid (by omega) ht
      (first | (refine H.wh ?_; clear H; intros; rename_i w H; constructor) | refine wk ?_)
      ((first | refine Rel.nwD H ?_ | refine Rel.nw H ?_); clear H; intro w b14 H)
      (first | (refine H.wg ?_; clear H; intros; rename_i w H; constructor) | refine wk ?_)
      refine SemC.seqGo tabOk ?_
      (first | (refine H.wg ?_; clear H; intros; rename_i w H; constructor) | refine wk ?_)
      refine (same_value (SizeOf.sizeOf (vv : Val) + 1) H.data (Nat.lt_succ_self _) hv3 (hv0.up hV9) (vb_big hVB)).use ?_
      rintro q w ⟨r0, rfl, hsame, K⟩
      (have hKb := K.base; replace H := Rel.call H K)
      simp only [List.nil_append] at H
      by_cases hvv : vv = v
      rotate_left
      · obtain rfl : r0 = false := by
          cases r0 with
          | false => rfl
          | true => exact absurd (hsame.1 rfl) hvv
        rw [(treMake_no hrd fun _ h => by rw [← hO, ht] at h; cases h; exact hvv rfl)]
        (first | (refine H.wg ?_; clear H; intros; rename_i w H; constructor) | refine wk ?_)
        refine SemC.go tabOk ?_
        (first | (refine H.wg ?_; clear H; intros; rename_i w H; constructor) | refine wk ?_)
        exact ⟨V9, r, O, false, hV9, H.sx, rfl, hr.up hV79, rfl⟩
      obtain rfl := hsame.2 hvv
      (first | (refine H.wg ?_; clear H; intros; rename_i w H; constructor) | refine wk ?_)
      refine (bytes_ref H.data hr3 (hs.up hV9)).use ?_
      rintro q w ⟨rfl, K⟩
      (have hKb := K.base; replace H := Rel.call H K)
      simp only [List.nil_append] at H
      by_cases hbb : rr = b
      rotate_left
      · rw [decide_eq_false hbb]
        rw [(treMake_no hrd fun _ h => by rw [← hO, ht] at h; cases h; exact hbb rfl)]
        (first | (refine H.wg ?_; clear H; intros; rename_i w H; constructor) | refine wk ?_)
        refine SemC.go tabOk ?_
        (first | (refine H.wg ?_; clear H; intros; rename_i w H; constructor) | refine wk ?_)
        exact ⟨V9, r, O, false, hV9, H.sx, rfl, hr.up hV79, rfl⟩
      rw [decide_eq_true hbb, treMake_yes hrd (by rw [← hO]; omega) (by rw [← hO, ht, hvv, hbb]), ← hO]
      (first | (refine H.wg ?_; clear H; intros; rename_i w H; constructor) | refine wk ?_)
      refine SemC.go tabOk ?_
      (first | (refine H.wg ?_; clear H; intros; rename_i w H; constructor) | refine wk ?_)
      exact ⟨V9, r, O, true, hV9, H.sx, rfl, hr.up hV79, rfl, rfl⟩
  have hltB : k < B.length := by omega
  obtain ⟨p0, c0⟩ := hx.at1 (g := str) (fun _ => rfl) hlt
  obtain ⟨p1, c1⟩ := hy.at1 (g := str) (fun _ => rfl) hltB
  have hst := outB_step hltB hlt
  have hbl := hBs _ (List.getElem_mem hltB)
  have htl := mem_lenT (List.getElem_mem hlt)
  obtain ⟨t, ht⟩ : ∃ t, t = T[k] := ⟨_, rfl⟩
  obtain ⟨bl, hbl0⟩ : ∃ bl, bl = B[k] := ⟨_, rfl⟩
  rw [← hO, ← hbl0, ← ht, ← List.append_assoc] at hst
  rw [← ht] at c0 htl
  rw [← hbl0] at c1 hbl
  have hkT : k ≤ 100000 := by omega
  (first | (refine H.wg ?_; clear H; intros; rename_i w H; constructor) | refine wk ?_)
  ((first | refine draw_vcTX (id := 12) tabOk mixed (Kv V6) Kv.trans [] [] [0, 1, 2, 3, 4, 5, 6, 7, 8, 9, 10] [(10, [])] (by kernel_rfl) ?_ | refine draw_vcTX (id := 17) tabOk mixed (Kv V6) Kv.trans [5] [9] [0, 1, 2, 3, 4, 6, 7, 8, 9, 5, 10, 11] [(5, []), (10, [5])] (by kernel_rfl) ?_); intro w hdw; replace H := Rel.ext H hdw.ext)
  repeat' ((first | (refine H.wh ?_; clear H; intros; rename_i w H; constructor) | refine wk ?_); (first | refine Kv.go H ?_ | refine Kv.go2 H (by assumption) ?_ | (refine And.intro (fun w1 hkp => ?_) ?_; focus ((first | have H := Kv.in H hkp | have H := Kv.in2 H (by assumption) hkp); ((repeat ((conv => whnf); first | refine an ?_ | refine H.ce ?_ | refine H.db ?_ | refine ea ?_ | refine ol ?_ | fail | refine cT ?_ | refine cF ?_ | refine cN ?_ | refine cM ?_ | refine H.lw ?_ | refine H.ll ?_)); (conv => whnf)); all_goals (first | exact ⟨rfl, rfl⟩ | exact rfl))) | refine And.intro ?_ ?_ | ((first | refine Rel.nwD H ?_ | refine Rel.nw H ?_); clear H; intro w _ H)))
  (first | (refine H.wh ?_; clear H; intros; rename_i w H; constructor) | refine wk ?_)
  by_cases h1 : 0 < bl.length ∨ 0 < O.length
  · refine Rel.appStr H (i := 0) (l := bl) rfl h1 (by omega) ?_
    clear H
    intro r1 w H
    simp only [List.set_cons_zero] at H
    repeat' ((first | (refine H.wh ?_; clear H; intros; rename_i w H; constructor) | refine wk ?_); (first | refine Kv.go H ?_ | refine Kv.go2 H (by assumption) ?_ | (refine And.intro (fun w1 hkp => ?_) ?_; focus ((first | have H := Kv.in H hkp | have H := Kv.in2 H (by assumption) hkp); ((repeat ((conv => whnf); first | refine an ?_ | refine H.ce ?_ | refine H.db ?_ | refine ea ?_ | refine ol ?_ | fail | refine cT ?_ | refine cF ?_ | refine cN ?_ | refine cM ?_ | refine H.lw ?_ | refine H.ll ?_)); (conv => whnf)); all_goals (first | exact ⟨rfl, rfl⟩ | exact rfl))) | refine And.intro ?_ ?_ | ((first | refine Rel.nwD H ?_ | refine Rel.nw H ?_); clear H; intro w _ H)))
    (first | (refine H.wh ?_; clear H; intros; rename_i w H; constructor) | refine wk ?_)
    refine Rel.appStr H (i := 0) (l := t) rfl (.inr (by rw [List.length_append]; omega)) (by rw [List.length_append]; omega) ?_
    clear H
    intro r2 w H
    simp only [List.set_cons_zero] at H
    (first | (refine H.wg ?_; clear H; intros; rename_i w H; constructor) | refine wk ?_)
    refine ⟨(by repeat (first | exact trivial | refine ⟨rfl, ?_⟩)), (k + 1, r2), (by repeat (first | exact trivial | refine ⟨rfl, ?_⟩)), ⟨by dsimp only; omega, fun h => ?_, by dsimp only; rw [hst]; exact H⟩, by dsimp only; omega⟩
    dsimp only at h
    rw [hst] at h
    have := congrArg List.length h
    simp only [List.length_append, List.length_nil] at this
    omega
  · obtain rfl : bl = [] := List.eq_nil_of_length_eq_zero (by omega)
    obtain rfl : O = [] := List.eq_nil_of_length_eq_zero (by omega)
    obtain rfl := hrn rfl
    refine app_nil_str ?_
    repeat' ((first | (refine H.wh ?_; clear H; intros; rename_i w H; constructor) | refine wk ?_); (first | refine Kv.go H ?_ | refine Kv.go2 H (by assumption) ?_ | (refine And.intro (fun w1 hkp => ?_) ?_; focus ((first | have H := Kv.in H hkp | have H := Kv.in2 H (by assumption) hkp); ((repeat ((conv => whnf); first | refine an ?_ | refine H.ce ?_ | refine H.db ?_ | refine ea ?_ | refine ol ?_ | fail | refine cT ?_ | refine cF ?_ | refine cN ?_ | refine cM ?_ | refine H.lw ?_ | refine H.ll ?_)); (conv => whnf)); all_goals (first | exact ⟨rfl, rfl⟩ | exact rfl))) | refine And.intro ?_ ?_ | ((first | refine Rel.nwD H ?_ | refine Rel.nw H ?_); clear H; intro w _ H)))
    (first | (refine H.wh ?_; clear H; intros; rename_i w H; constructor) | refine wk ?_)
    by_cases h2 : 0 < t.length
    · refine Rel.appStr H (i := 0) (s := ⟨none, 0, 0⟩) (xs := []) (l := t) rfl (.inl h2) (by simp only [List.length_nil]; omega) ?_
      clear H
      intro r2 w H
      simp only [List.set_cons_zero] at H
      (first | (refine H.wg ?_; clear H; intros; rename_i w H; constructor) | refine wk ?_)
      refine ⟨(by repeat (first | exact trivial | refine ⟨rfl, ?_⟩)), (k + 1, r2), (by repeat (first | exact trivial | refine ⟨rfl, ?_⟩)), ⟨by dsimp only; omega, fun h => ?_, by dsimp only; rw [hst]; exact H⟩, by dsimp only; omega⟩
      dsimp only at h
      rw [hst] at h
      have := congrArg List.length h
      simp only [List.length_append, List.length_nil] at this
      omega
    · obtain rfl : t = [] := List.eq_nil_of_length_eq_zero (by omega)
      refine app_nil_str ?_
      (first | (refine H.wg ?_; clear H; intros; rename_i w H; constructor) | refine wk ?_)
      exact ⟨(by repeat (first | exact trivial | refine ⟨rfl, ?_⟩)), (k + 1, ⟨none, 0, 0⟩), (by repeat (first | exact trivial | refine ⟨rfl, ?_⟩)), ⟨by dsimp only; omega, fun _ => rfl, by dsimp only; rw [hst]; exact H⟩, by dsimp only; omega⟩
end
end Go.Proofs.YtffaffojkfalhaaGreatDoor
