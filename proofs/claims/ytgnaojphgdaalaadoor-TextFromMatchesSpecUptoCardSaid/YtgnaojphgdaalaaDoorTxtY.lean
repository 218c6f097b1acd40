/-
  Text files, the reference: the file of a value.
-/
import Derived.Test.YtgnaojphgdaalaaDoorTxtV
namespace Go.Proofs.YtgnaojphgdaalaaDoor
open Go Go.RowKit

theorem ch_app {l m : List Nat} (hl : ∀ c ∈ l, isCh c) (hm : ∀ c ∈ m, isCh c) : ∀ c ∈ l ++ m, isCh c := fun c hc => by
  rcases List.mem_append.1 hc with h | h
  · exact hl c h
  · exact hm c h
section
variable {V W : World}
set_option maxRecDepth 100000 in
set_option maxHeartbeats 2000000 in
theorem txtFile_g (hV : Sub V W) {h : VH} {v : Val} (hv : ValAt V h v) (hB : VB 1048576 v) (hvf : (vfault v).1 = 0) (hsh : (txtShape v).isSome = true) {s : Sl} {b : List UInt8} (hs : Byt V s b) (hl : b.length ≤ 100000000) : Ret Tryd.prog 17 [valV h, s.v].toArray W (FrG W V (txtMake v b)) := by
  have H := Rel.start hV
  have hlen := hs.len
  have hby := hv.bytes
  have ek := hv.kind
  have hk2 : v.kind = 2 := by
    unfold txtShape at hsh
    split at hsh
    · assumption
    · cases hsh
  have hsn : txtShape v = some v.bytes := by unfold txtShape; rw [if_pos hk2]
  have hve := valid_byt (valid_node hvf).1 hk2
  have hmk : txtMake v b = match txtOut v.bytes b with
      | none => none
      | some o => open Classical in if o.length ≤ 1000 ∧ txtTo o = some (v, b) then some o else none := by
    unfold txtMake
    rw [hsn]
    rfl
  have hbl : v.bytes.length ≤ 1048576 := by cases hB; assumption
  obtain ⟨k, n, bs, ss, pl⟩ := h
  dsimp only at hby
  change Ret Tryd.prog _ [.agg [iv k, iv n, bs.v, ss.v, pl.v].toArray, s.v].toArray W _
  refine cal_of_vc tabOk Tryd.func17 rfl (by kernel_rfl) 110 rfl (by simp) [0, 1, 2, 4, 5, 6, 7, 8, 9, 10, 11, 12, 13, 14, 15, 28, 31, 41, 48, 58, 61, 68, 73, 89] ?_
  (first | (refine H.wh ?_; clear H; intros; rename_i w H; constructor) | refine wk ?_)
  ((first | refine Rel.nwD H ?_ | refine Rel.nw H ?_); clear H; intro w b2 H)
  (first | (refine H.wg ?_; clear H; intros; rename_i w H; constructor) | refine wk ?_)
  refine (chars_ref H.data hby (by omega)).use ?_
  rintro q w ⟨V2, r, hV2, K, hres⟩
  (have hKb := K.base; replace H := H.call0 K)
  have hmn : txtOut v.bytes b = none → txtMake v b = none := fun h => by rw [hmk, h]
  cases hch : chars v.bytes with
  | none =>
    rw [hch] at hres
    obtain rfl := hres
    rw [hmn (by unfold txtOut; rw [hch]; split <;> rfl)]
    (first | (refine H.wg ?_; clear H; intros; rename_i w H; constructor) | refine wk ?_)
    exact ⟨V2, ⟨none, 0, 0⟩, [], false, hV2, H.sx, rfl, (SlF.nil _ _), rfl⟩
  | some l =>
    rw [hch] at hres
    obtain ⟨rfl, hr⟩ := hres
    have hrl := hr.len
    obtain ⟨c1, c2⟩ := chars_iff.1 hch
    have hll := flat_u8_le (cs := l)
    rw [c2] at hll
    (first | (refine H.wg ?_; clear H; intros; rename_i w H; constructor) | refine wk ?_)
    refine (txtGood_g H.data (hs.up hV2) (by omega)).use ?_
    rintro q w ⟨rfl, K⟩
    (have hKb := K.base; replace H := H.call0 K)
    rw [txtLoss_isSome]
    cases hrd : txtRd b with
    | none =>
      rw [hmn (by unfold txtOut; rw [hrd])]
      (first | (refine H.wg ?_; clear H; intros; rename_i w H; constructor) | refine wk ?_)
      exact ⟨V2, ⟨none, 0, 0⟩, [], false, hV2, H.sx, rfl, (SlF.nil _ _), rfl⟩
    | some x =>
      obtain ⟨e, rs⟩ := x
      obtain ⟨h5, ho, hsum, _, _⟩ := txtRd_some hrd
      have hout : txtOut v.bytes b = match txtCs b rs l with
          | none => none
          | some cs => encC e cs := by unfold txtOut; rw [hrd]; simp only; rw [hch]; rfl
      by_cases hb : b = []
      · unfold txtRd at hrd
        rw [if_pos hb] at hrd
        cases hrd
        have hcs0 : txtCs b [] l = some l := by unfold txtCs; rw [if_pos hb]
        have hl0 : s.len = 0 := by rw [hlen, hb]; rfl
        clear hmn
        (first | (refine H.wg ?_; clear H; intros; rename_i w H; constructor) | refine wk ?_)
        replace H := H.rowNil 3 1
        refine loop_inv (S := Nat × Sl) tabOk [0, 1, 2, 6, 7, 8, 13, 14, 15, 28, 31, 89] (fun q => [(11, iv q.1), (10, q.2.v)]) (fun q w' => q.1 ≤ l.length ∧ Rel W V [.row q.2 3 1 ((l.take q.1).flatMap naC), .blk b2 [iv k, iv n, bs.v, ss.v, pl.v] 27] V2 w') (fun q _ => l.length - q.1) (0, ⟨none, 0, 0⟩) ?_
        (conv => whnf)
        refine ⟨(by repeat (first | exact trivial | refine ⟨rfl, ?_⟩)), ⟨Nat.zero_le _, H.sx⟩, ?_⟩
        clear H
        rintro ⟨i, r10⟩ w ⟨hi, H⟩
        dsimp only at hi H ⊢
        have htl : (l.take i).length = i := by rw [List.length_take]; omega
        by_cases hlt : i < l.length
        · obtain ⟨p0, c0⟩ := hr.at1 (g := fun u : Nat => iv (u : Int)) (fun _ => rfl) hlt
          have htk := List.take_succ_eq_append_getElem hlt
          obtain ⟨c, hc⟩ : ∃ c, c = l[i] := ⟨_, rfl⟩
          rw [← hc] at c0 htk
          by_cases h10 : c = 10
          · subst h10
            (first | (refine H.wg ?_; clear H; intros; rename_i w H; constructor) | refine wk ?_)
            refine Rel.app1_0 (f := naC) (l := l.take i) (x := 10) tabOk rfl rfl rfl rfl rfl (by decide) (fun _ => rfl) (List.all_eq_true.1 rfl) H (by show ((l.take i).length + 1) * 8 ≤ _; omega) (by omega) ?_
            clear H
            intro rn w H
            rw [← htk] at H
            (first | (refine H.wg ?_; clear H; intros; rename_i w H; constructor) | refine wk ?_)
            exact ⟨(by repeat (first | exact trivial | refine ⟨rfl, ?_⟩)), (i + 1, rn), (by repeat (first | exact trivial | refine ⟨rfl, ?_⟩)), ⟨by dsimp only; omega, H.sx⟩, by dsimp only; omega⟩
          · (first | (refine H.wg ?_; clear H; intros; rename_i w H; constructor) | refine wk ?_)
            refine Rel.app1_0 (f := naC) (l := l.take i) (x := c) tabOk rfl rfl rfl rfl rfl (by decide) (fun _ => rfl) (List.all_eq_true.1 rfl) H (by show ((l.take i).length + 1) * 8 ≤ _; omega) (by omega) ?_
            clear H
            intro rn w H
            rw [← htk] at H
            (first | (refine H.wg ?_; clear H; intros; rename_i w H; constructor) | refine wk ?_)
            exact ⟨(by repeat (first | exact trivial | refine ⟨rfl, ?_⟩)), (i + 1, rn), (by repeat (first | exact trivial | refine ⟨rfl, ?_⟩)), ⟨by dsimp only; omega, H.sx⟩, by dsimp only; omega⟩
        · rw [List.take_of_length_le (by omega)] at H
          obtain ⟨out, hot⟩ : ∃ out, out = l := ⟨_, rfl⟩
          rw [← hot] at H
          have hcs : txtCs b [] l = some out ∨ txtCs b [] l = none := .inl (by rw [hot]; exact hcs0)
          have hoc : ∀ c ∈ out, isCh c := by rw [hot]; exact c1
          have hol : out.length ≤ 2 * l.length := by rw [hot]; omega
          have h5 : 0 < 5 := by decide
          obtain ⟨V4, hV4, H, hr10⟩ := Rel.freezeF H (fun _ => rfl) (by decide)
          (first | (refine H.wg ?_; clear H; intros; rename_i w H; constructor) | refine wk ?_)
          refine (charBytes_ref (e := 0) H.data hr10 (by omega) hoc h5).use ?_
          rintro q w ⟨V5, r13, hV5, K, he⟩
          (have hKb := K.base; replace H := H.call0 K)
          have hV25 := (hV2.trans hV4).trans hV5
          have hmo : ∀ o, txtMake v b = some o → encC 0 out = some o := fun o h => by
            rw [hmk, hout] at h
            rcases hcs with h1 | h1
            · rw [h1] at h
              simp only at h
              cases hen : encC 0 out with
              | none => rw [hen] at h; cases h
              | some O =>
                rw [hen] at h
                simp only at h
                split at h
                · exact h
                · cases h
            · rw [h1] at h
              cases h
          have hmn : (∀ O, encC 0 out = some O → O.length ≤ 1000 → txtTo O ≠ some (v, b)) → txtMake v b = none := fun h => by
            cases hm : txtMake v b with
            | none => rfl
            | some o =>
              obtain ⟨m1, m2⟩ := txtMake_some hm
              exact absurd m2 (h o (hmo o hm) m1)
          cases hen : encC 0 out with
          | none =>
            rw [hen] at he
            obtain rfl := he
            rw [hmn (fun O h => by rw [hen] at h; cases h)]
            (first | (refine H.wg ?_; clear H; intros; rename_i w H; constructor) | refine wk ?_)
            exact ⟨V5, ⟨none, 0, 0⟩, [], false, hV25, H.sx, rfl, (SlF.nil _ _), rfl⟩
          | some O =>
            rw [hen] at he
            obtain ⟨rfl, hO⟩ := he
            have hOl := hO.len
            have hmn : (O.length ≤ 1000 → txtTo O ≠ some (v, b)) → txtMake v b = none := fun h => hmn (fun O' e1 => by
              rw [hen] at e1
              cases e1
              exact h)
            by_cases hO1 : 1000 < O.length
            · rw [hmn (fun h => by omega)]
              (first | (refine H.wg ?_; clear H; intros; rename_i w H; constructor) | refine wk ?_)
              exact ⟨V5, ⟨none, 0, 0⟩, [], false, hV25, H.sx, rfl, (SlF.nil _ _), rfl⟩
            (first | (refine H.wg ?_; clear H; intros; rename_i w H; constructor) | refine wk ?_)
            refine (txtTo_ref H.data hO (by omega)).use ?_
            rintro q w ⟨V6, h3, r6, v3, b3, hV6, K, hv3, hr3, hto⟩
            (have hKb := K.base; replace H := H.call0 K)
            have hV26 := hV25.trans hV6
            have hwb := hv3.bytes
            obtain ⟨hk, hn, hbs, hss, hpl2⟩ := h3
            dsimp only at hwb
            cases ht : txtTo O with
            | none =>
              rw [ht] at hto
              dsimp only at hto
              subst hto
              (first | (refine H.wh ?_; clear H; intros; rename_i w H; constructor) | refine wk ?_)
              ((first | refine Rel.nwD H ?_ | refine Rel.nw H ?_); clear H; intro w b14 H)
              rw [hmn (fun _ => by rw [ht]; simp)]
              (first | (refine H.wg ?_; clear H; intros; rename_i w H; constructor) | refine wk ?_)
              exact ⟨V6, r13, O, false, hV26, H.sx, rfl, (hO.up hV6), rfl⟩
            | some y =>
              rw [ht] at hto
              obtain ⟨rfl, rfl⟩ := hto
              obtain ⟨cs2, e2, T⟩ := txtTo_some ht
              have hwv := T.val
              (first | (refine H.wh ?_; clear H; intros; rename_i w H; constructor) | refine wk ?_)
              ((first | refine Rel.nwD H ?_ | refine Rel.nw H ?_); clear H; intro w b14 H)
              (first | (refine H.wg ?_; clear H; intros; rename_i w H; constructor) | refine wk ?_)
              refine (bytes_ref H.data hwb (hby.up hV26)).use ?_
              rintro q w ⟨rfl, K⟩
              (have hKb := K.base; replace H := Rel.call H K)
              simp only [List.nil_append] at H
              by_cases hc1 : v3.bytes = v.bytes
              rotate_left
              · rw [decide_eq_false hc1]
                rw [hmn (fun _ => by rw [ht]; intro h; cases h; exact hc1 rfl)]
                (first | (refine H.wg ?_; clear H; intros; rename_i w H; constructor) | refine wk ?_)
                exact ⟨V6, r13, O, false, hV26, H.sx, rfl, (hO.up hV6), rfl⟩
              rw [decide_eq_true hc1]
              (first | (refine H.wg ?_; clear H; intros; rename_i w H; constructor) | refine wk ?_)
              refine (bytes_ref H.data hr3 (hs.up hV26)).use ?_
              rintro q w ⟨rfl, K⟩
              (have hKb := K.base; replace H := Rel.call H K)
              simp only [List.nil_append] at H
              by_cases hc2 : b3 = b
              rotate_left
              · rw [decide_eq_false hc2]
                rw [hmn (fun _ => by rw [ht]; intro h; cases h; exact hc2 rfl)]
                (first | (refine H.wg ?_; clear H; intros; rename_i w H; constructor) | refine wk ?_)
                exact ⟨V6, r13, O, false, hV26, H.sx, rfl, (hO.up hV6), rfl⟩
              rw [decide_eq_true hc2]
              have hv3v : v3 = v := by rw [hve, ← hc1, hwv]; first | done | rfl
              have hm : txtMake v b = some O := txt_round (by omega) (by rw [ht, hv3v, hc2])
              rw [hm]
              (first | (refine H.wg ?_; clear H; intros; rename_i w H; constructor) | refine wk ?_)
              exact ⟨V6, r13, O, true, hV26, H.sx, rfl, hO.up hV6, rfl, rfl⟩
      · have hbl2 := List.length_pos_iff.2 hb
        have hraw : txtRaw b = some (e, rs) := by
          unfold txtRd at hrd
          rw [if_neg hb] at hrd
          split at hrd
          · cases hrd
          · rename_i e' rs' h
            split at hrd
            · cases hrd
            · cases hrd
              exact h
        have hcs0 : txtCs b rs l = unlines l (runsK rs) := by unfold txtCs; rw [if_neg hb]
        have hk3 := (runsOf_K rs 3 ho).2.2.1
        obtain ⟨ks, hks⟩ : ∃ ks, ks = runsK rs := ⟨_, rfl⟩
        rw [← hks] at hk3 hcs0
        (first | (refine H.wg ?_; clear H; intros; rename_i w H; constructor) | refine wk ?_)
        refine (textKinds_ref H.data (hs.up hV2) (by omega)).use ?_
        rintro q w ⟨V3, r9, c, ok, hV3, K, rfl, hk⟩
        (have hKb := K.base; replace H := H.call0 K)
        rw [hraw] at hk
        obtain ⟨rfl, rfl, hr9⟩ := hk
        rw [← hks] at hr9
        have hr := hr.up hV3
        have hV23 := hV2.trans hV3
        have hun0 : (∀ o, unlines l ks ≠ some o) → txtMake v b = none := fun h => hmn (by
          rw [hout, hcs0]
          cases hu : unlines l ks with
          | none => rfl
          | some o => exact absurd hu (h o))
        clear hmn
        (first | (refine H.wg ?_; clear H; intros; rename_i w H; constructor) | refine wk ?_)
        replace H := H.rowNil 3 1
        refine loop_inv (S := Nat × Sl × List Nat × Sl × List Nat) tabOk [0, 1, 2, 6, 7, 8, 13, 14, 15, 28, 31, 89] (fun q => [(11, iv q.1), (10, q.2.1.v), (9, q.2.2.2.1.v)]) (fun q w' => q.1 ≤ l.length ∧ unlines l ks = (unlines (l.drop q.1) q.2.2.2.2).map (q.2.2.1 ++ ·) ∧ q.2.2.1.length ≤ 2 * q.1 ∧ (∀ c ∈ q.2.2.1, isCh c) ∧ (∀ k ∈ q.2.2.2.2, k < 3) ∧ SlF naC V3 q.2.2.2.1 q.2.2.2.2 ∧ Rel W V [.row q.2.1 3 1 (q.2.2.1.flatMap naC), .blk b2 [iv k, iv n, bs.v, ss.v, pl.v] 27] V3 w') (fun q _ => l.length - q.1) (0, ⟨none, 0, 0⟩, [], r9, ks) ?_
        (conv => whnf)
        refine ⟨(by repeat (first | exact trivial | refine ⟨rfl, ?_⟩)), ⟨Nat.zero_le _, by simp, Nat.le_refl _, by simp, hk3, hr9, H.sx⟩, ?_⟩
        clear H
        rintro ⟨i, r10, out, q9, kk⟩ w ⟨hi, hunl, hol, hoc, hkk, hq9, H⟩
        dsimp only at hi hunl hol hoc hkk hq9 H ⊢
        have hq9l := hq9.len
        by_cases hlt : i < l.length
        · obtain ⟨p0, c0⟩ := hr.at1 (g := fun u : Nat => iv (u : Int)) (fun _ => rfl) hlt
          have hcc := c1 l[i] (List.getElem_mem hlt)
          have hdr := List.drop_eq_getElem_cons hlt
          obtain ⟨c, hc⟩ : ∃ c, c = l[i] := ⟨_, rfl⟩
          rw [← hc] at c0 hdr hcc
          rw [hdr] at hunl
          by_cases h10 : c = 10
          rotate_left
          · rw [unl_other h10, show (unlines (l.drop (i + 1)) kk).map (c :: ·) = (unlines (l.drop (i + 1)) kk).map ([c] ++ ·) from rfl, fmap_app] at hunl
            (first | (refine H.wg ?_; clear H; intros; rename_i w H; constructor) | refine wk ?_)
            refine Rel.app1_0 (f := naC) (l := out) (x := c) tabOk rfl rfl rfl rfl rfl (by decide) (fun _ => rfl) (List.all_eq_true.1 rfl) H (by show ((out).length + 1) * 8 ≤ _; omega) (by omega) ?_
            clear H
            intro rn w H
            (first | (refine H.wg ?_; clear H; intros; rename_i w H; constructor) | refine wk ?_)
            exact ⟨(by repeat (first | exact trivial | refine ⟨rfl, ?_⟩)), (i + 1, rn, out ++ [c], q9, kk), (by repeat (first | exact trivial | refine ⟨rfl, ?_⟩)), ⟨by dsimp only; omega, hunl, by dsimp only; rw [List.length_append, List.length_singleton]; omega, ch_app hoc (by simpa using hcc), hkk, hq9, H.sx⟩, by dsimp only; omega⟩
          subst h10
          cases kk with
          | nil =>
            rw [unl_none] at hunl
            rw [List.length_nil] at hq9l
            rw [hun0 (by rw [hunl]; simp)]
            (first | (refine H.wg ?_; clear H; intros; rename_i w H; constructor) | refine wk ?_)
            exact ⟨V3, ⟨none, 0, 0⟩, [], false, hV23, H.sx, rfl, SlF.nil _ _, rfl⟩
          | cons kd kk =>
            rw [unl_lf, fmap_app] at hunl
            rw [List.length_cons] at hq9l
            obtain ⟨_, d0⟩ := hq9.at1 (g := fun u : Nat => iv (u : Int)) (fun _ => rfl) (show 0 < (kd :: kk).length by simp)
            rw [List.getElem_cons_zero] at d0
            have hq9t := hq9.tl (n := 1) (fun _ => rfl) (k := 1) (by simp)
            rw [List.drop_one, List.tail_cons] at hq9t
            have hq9c := hq9.cap
            have hkk2 : ∀ k ∈ kk, k < 3 := fun x hx => hkk x (by simp [hx])
            have hkd := hkk kd (by simp)
            obtain rfl | rfl | rfl : kd = 0 ∨ kd = 1 ∨ kd = 2 := by omega
            · (first | (refine H.wg ?_; clear H; intros; rename_i w H; constructor) | refine wk ?_)
              refine Rel.app1_0 (f := naC) (l := out) (x := 10) tabOk rfl rfl rfl rfl rfl (by decide) (fun _ => rfl) (List.all_eq_true.1 rfl) H (by show ((out).length + 1) * 8 ≤ _; omega) (by omega) ?_
              clear H
              intro rn w H
              (first | (refine H.wg ?_; clear H; intros; rename_i w H; constructor) | refine wk ?_)
              exact ⟨(by repeat (first | exact trivial | refine ⟨rfl, ?_⟩)), (i + 1, rn, out ++ [10], _, kk), (by repeat (first | exact trivial | refine ⟨rfl, ?_⟩)), ⟨by dsimp only; omega, hunl, by dsimp only; rw [List.length_append, List.length_singleton]; omega, ch_app hoc (by decide), hkk2, hq9t, H.sx⟩, by dsimp only; omega⟩
            · (first | (refine H.wg ?_; clear H; intros; rename_i w H; constructor) | refine wk ?_)
              refine Rel.app1_0 (f := naC) (l := out) (x := 13) tabOk rfl rfl rfl rfl rfl (by decide) (fun _ => rfl) (List.all_eq_true.1 rfl) H (by show ((out).length + 1) * 8 ≤ _; omega) (by omega) ?_
              clear H
              intro rn w H
              (first | (refine H.wg ?_; clear H; intros; rename_i w H; constructor) | refine wk ?_)
              have hol2 : (out ++ [13]).length ≤ 2 * i + 1 := by rw [List.length_append, List.length_singleton]; omega
              refine Rel.app1_0 (f := naC) (l := out ++ [13]) (x := 10) tabOk rfl rfl rfl rfl rfl (by decide) (fun _ => rfl) (List.all_eq_true.1 rfl) H (by show ((out ++ [13]).length + 1) * 8 ≤ _; omega) (by omega) ?_
              clear H
              intro rm w H
              rw [List.append_assoc] at H
              (first | (refine H.wg ?_; clear H; intros; rename_i w H; constructor) | refine wk ?_)
              exact ⟨(by repeat (first | exact trivial | refine ⟨rfl, ?_⟩)), (i + 1, rm, out ++ ([13] ++ [10]), _, kk), (by repeat (first | exact trivial | refine ⟨rfl, ?_⟩)), ⟨by dsimp only; omega, hunl, by dsimp only; rw [List.length_append]; simp only [List.length_append, List.length_cons, List.length_nil]; omega, ch_app hoc (by decide), hkk2, hq9t, H.sx⟩, by dsimp only; omega⟩
            · (first | (refine H.wg ?_; clear H; intros; rename_i w H; constructor) | refine wk ?_)
              refine Rel.app1_0 (f := naC) (l := out) (x := 13) tabOk rfl rfl rfl rfl rfl (by decide) (fun _ => rfl) (List.all_eq_true.1 rfl) H (by show ((out).length + 1) * 8 ≤ _; omega) (by omega) ?_
              clear H
              intro rn w H
              (first | (refine H.wg ?_; clear H; intros; rename_i w H; constructor) | refine wk ?_)
              exact ⟨(by repeat (first | exact trivial | refine ⟨rfl, ?_⟩)), (i + 1, rn, out ++ [13], _, kk), (by repeat (first | exact trivial | refine ⟨rfl, ?_⟩)), ⟨by dsimp only; omega, hunl, by dsimp only; rw [List.length_append, List.length_singleton]; omega, ch_app hoc (by decide), hkk2, hq9t, H.sx⟩, by dsimp only; omega⟩
        · rw [List.drop_of_length_le (by omega)] at hunl
          have hcs : txtCs b rs l = some out ∨ txtCs b rs l = none := by
            rw [hcs0, hunl]
            cases kk with
            | nil => left; simp [unlines]
            | cons _ _ => right; rfl
          obtain ⟨V4, hV4, H, hr10⟩ := Rel.freezeF H (fun _ => rfl) (by decide)
          (first | (refine H.wg ?_; clear H; intros; rename_i w H; constructor) | refine wk ?_)
          refine (charBytes_ref (e := e) H.data hr10 (by omega) hoc h5).use ?_
          rintro q w ⟨V5, r13, hV5, K, he⟩
          (have hKb := K.base; replace H := H.call0 K)
          have hV25 := (hV23.trans hV4).trans hV5
          have hmo : ∀ o, txtMake v b = some o → encC e out = some o := fun o h => by
            rw [hmk, hout] at h
            rcases hcs with h1 | h1
            · rw [h1] at h
              simp only at h
              cases hen : encC e out with
              | none => rw [hen] at h; cases h
              | some O =>
                rw [hen] at h
                simp only at h
                split at h
                · exact h
                · cases h
            · rw [h1] at h
              cases h
          have hmn : (∀ O, encC e out = some O → O.length ≤ 1000 → txtTo O ≠ some (v, b)) → txtMake v b = none := fun h => by
            cases hm : txtMake v b with
            | none => rfl
            | some o =>
              obtain ⟨m1, m2⟩ := txtMake_some hm
              exact absurd m2 (h o (hmo o hm) m1)
          cases hen : encC e out with
          | none =>
            rw [hen] at he
            obtain rfl := he
            rw [hmn (fun O h => by rw [hen] at h; cases h)]
            (first | (refine H.wg ?_; clear H; intros; rename_i w H; constructor) | refine wk ?_)
            exact ⟨V5, ⟨none, 0, 0⟩, [], false, hV25, H.sx, rfl, (SlF.nil _ _), rfl⟩
          | some O =>
            rw [hen] at he
            obtain ⟨rfl, hO⟩ := he
            have hOl := hO.len
            have hmn : (O.length ≤ 1000 → txtTo O ≠ some (v, b)) → txtMake v b = none := fun h => hmn (fun O' e1 => by
              rw [hen] at e1
              cases e1
              exact h)
            by_cases hO1 : 1000 < O.length
            · rw [hmn (fun h => by omega)]
              (first | (refine H.wg ?_; clear H; intros; rename_i w H; constructor) | refine wk ?_)
              exact ⟨V5, ⟨none, 0, 0⟩, [], false, hV25, H.sx, rfl, (SlF.nil _ _), rfl⟩
            (first | (refine H.wg ?_; clear H; intros; rename_i w H; constructor) | refine wk ?_)
            refine (txtTo_ref H.data hO (by omega)).use ?_
            rintro q w ⟨V6, h3, r6, v3, b3, hV6, K, hv3, hr3, hto⟩
            (have hKb := K.base; replace H := H.call0 K)
            have hV26 := hV25.trans hV6
            have hwb := hv3.bytes
            obtain ⟨hk, hn, hbs, hss, hpl2⟩ := h3
            dsimp only at hwb
            cases ht : txtTo O with
            | none =>
              rw [ht] at hto
              dsimp only at hto
              subst hto
              (first | (refine H.wh ?_; clear H; intros; rename_i w H; constructor) | refine wk ?_)
              ((first | refine Rel.nwD H ?_ | refine Rel.nw H ?_); clear H; intro w b14 H)
              rw [hmn (fun _ => by rw [ht]; simp)]
              (first | (refine H.wg ?_; clear H; intros; rename_i w H; constructor) | refine wk ?_)
              exact ⟨V6, r13, O, false, hV26, H.sx, rfl, (hO.up hV6), rfl⟩
            | some y =>
              rw [ht] at hto
              obtain ⟨rfl, rfl⟩ := hto
              obtain ⟨cs2, e2, T⟩ := txtTo_some ht
              have hwv := T.val
              (first | (refine H.wh ?_; clear H; intros; rename_i w H; constructor) | refine wk ?_)
              ((first | refine Rel.nwD H ?_ | refine Rel.nw H ?_); clear H; intro w b14 H)
              (first | (refine H.wg ?_; clear H; intros; rename_i w H; constructor) | refine wk ?_)
              refine (bytes_ref H.data hwb (hby.up hV26)).use ?_
              rintro q w ⟨rfl, K⟩
              (have hKb := K.base; replace H := Rel.call H K)
              simp only [List.nil_append] at H
              by_cases hc1 : v3.bytes = v.bytes
              rotate_left
              · rw [decide_eq_false hc1]
                rw [hmn (fun _ => by rw [ht]; intro h; cases h; exact hc1 rfl)]
                (first | (refine H.wg ?_; clear H; intros; rename_i w H; constructor) | refine wk ?_)
                exact ⟨V6, r13, O, false, hV26, H.sx, rfl, (hO.up hV6), rfl⟩
              rw [decide_eq_true hc1]
              (first | (refine H.wg ?_; clear H; intros; rename_i w H; constructor) | refine wk ?_)
              refine (bytes_ref H.data hr3 (hs.up hV26)).use ?_
              rintro q w ⟨rfl, K⟩
              (have hKb := K.base; replace H := Rel.call H K)
              simp only [List.nil_append] at H
              by_cases hc2 : b3 = b
              rotate_left
              · rw [decide_eq_false hc2]
                rw [hmn (fun _ => by rw [ht]; intro h; cases h; exact hc2 rfl)]
                (first | (refine H.wg ?_; clear H; intros; rename_i w H; constructor) | refine wk ?_)
                exact ⟨V6, r13, O, false, hV26, H.sx, rfl, (hO.up hV6), rfl⟩
              rw [decide_eq_true hc2]
              have hv3v : v3 = v := by rw [hve, ← hc1, hwv]; first | done | rfl
              have hm : txtMake v b = some O := txt_round (by omega) (by rw [ht, hv3v, hc2])
              rw [hm]
              (first | (refine H.wg ?_; clear H; intros; rename_i w H; constructor) | refine wk ?_)
              exact ⟨V6, r13, O, true, hV26, H.sx, rfl, hO.up hV6, rfl, rfl⟩
end
end Go.Proofs.YtgnaojphgdaalaaDoor
