/-
  Text files: From.
-/
import Derived.Test.YtgnaojphgdaalaaDoorTxtJ
import Derived.Test.YtgnaojphgdaalaaDoorValE
import Derived.Test.YtgnaojphgdaalaaDoorLibE
namespace Go.Proofs.YtgnaojphgdaalaaDoor
open Go Go.RowKit

theorem tabs_up {V V' : World} (h : Lib.Utf8Tabs 0 1 V) (k : Sub V V') : Lib.Utf8Tabs 0 1 V' :=
  ⟨fun c hc => k.cell (h.1 c hc), fun i hi => ⟨k.cell (h.2 i hi).1, k.cell (h.2 i hi).2⟩⟩
theorem unl_mem : ∀ {l ks cs : List Nat}, unlines l ks = some cs → (∀ c ∈ cs, c ∈ l ∨ c = 10 ∨ c = 13) ∧ cs.length ≤ 2 * l.length
  | [], [], cs, h => by cases h; simp
  | [], _ :: _, cs, h => by cases h
  | c :: r, ks, cs, h => by
    by_cases h10 : c = 10
    · subst h10
      cases ks with
      | nil => rw [unl_none] at h; cases h
      | cons k ks =>
        rw [unl_lf] at h
        cases hr : unlines r ks with
        | none => rw [hr] at h; cases h
        | some ds =>
          rw [hr] at h
          cases h
          obtain ⟨a1, a2⟩ := unl_mem hr
          have he : (endC k).length ≤ 2 ∧ ∀ c ∈ endC k, c = 10 ∨ c = 13 := by
            unfold endC
            split
            · simp
            · split <;> simp
          refine ⟨fun x hx => ?_, by rw [List.length_append, List.length_cons]; omega⟩
          rcases List.mem_append.1 hx with hx | hx
          · exact .inr (he.2 x hx)
          · rcases a1 x hx with h | h
            · exact .inl (by simp [h])
            · exact .inr h
    · rw [unl_other h10] at h
      cases hr : unlines r ks with
      | none => rw [hr] at h; cases h
      | some ds =>
        rw [hr] at h
        cases h
        obtain ⟨a1, a2⟩ := unl_mem hr
        refine ⟨fun x hx => ?_, by simp only [List.length_cons]; omega⟩
        rcases List.mem_cons.1 hx with rfl | hx
        · exact .inl (by simp)
        · rcases a1 x hx with h | h
          · exact .inl (by simp [h])
          · exact .inr h
theorem encC_le {e : Nat} {cs : List Nat} {o : List UInt8} (h : encC e cs = some o) : o.length ≤ 4 * cs.length + 3 := by
  have h8 := u8_take cs cs.length
  have ht := u16_take true cs cs.length
  have hf := u16_take false cs cs.length
  rw [List.take_length] at h8 ht hf
  unfold encC at h
  split at h
  · cases h; omega
  · split at h
    · cases h; rw [List.length_append]; simp only [List.length_cons, List.length_nil]; omega
    · split at h
      · cases h; rw [List.length_append]; simp only [List.length_cons, List.length_nil]; omega
      · split at h
        · cases h; rw [List.length_append]; simp only [List.length_cons, List.length_nil]; omega
        · split at h
          · cases h; rw [List.length_map]; omega
          · cases h
theorem txtCs_eq {b : List UInt8} {e : Nat} {rs : List Run} (h : txtRd b = some (e, rs)) (l : List Nat) : (if txtTriv e (runsK rs) = true then some l else unlines l (runsK rs)) = txtCs b rs l ∧ (txtTriv e (runsK rs) = true → rs = []) := by
  obtain ⟨_, _, _, _, hiff⟩ := txtRd_some h
  unfold txtCs
  by_cases hb : b = []
  · rw [if_pos (hiff.1 hb), if_pos hb]
    refine ⟨rfl, fun _ => ?_⟩
    unfold txtRd at h
    rw [if_pos hb] at h
    cases h
    rfl
  · rw [if_neg (fun q => hb (hiff.2 q)), if_neg hb]
    exact ⟨rfl, fun q => absurd (hiff.2 q) hb⟩
section
variable {V W : World}
set_option maxRecDepth 100000 in
set_option maxHeartbeats 2000000 in
theorem from_txt (hV : Sub V W) (hT : Lib.Utf8Tabs 0 1 V) {h : VH} {v : Val} (hv : ValAt V h v) (hB : VB 1048576 v) {s : Sl} {b : List UInt8} (hs : Byt V s b) (hl : b.length ≤ 100000000) : Ret Tryd.prog 15 [valV h, s.v].toArray W (FrR W V (frRes v (txtShape v).isSome (txtMake v b))) := by
  have H := Rel.start hV
  have hv0 := hv
  have ek := hv.kind
  have hby := hv.bytes
  have hbl := hB.bytes
  obtain ⟨k, n, bs, ss, pl⟩ := h
  dsimp only at ek hby
  change Ret Tryd.prog 15 [.agg [iv k, iv n, bs.v, ss.v, pl.v].toArray, s.v].toArray W _
  refine cal_of_vc tabOk Tryd.func15 rfl (by kernel_rfl) 86 rfl (by simp) [0, 1, 2, 4, 5, 6, 7, 8, 9, 10, 11, 12, 13, 14, 19, 23, 38, 48, 58, 82] ?_
  (first | (refine H.wh ?_; clear H; intros; rename_i w H; constructor) | refine wk ?_)
  ((first | refine Rel.nwD H ?_ | refine Rel.nw H ?_); clear H; intro w b2 H)
  (first | (refine H.wh ?_; clear H; intros; rename_i w H; constructor) | refine wk ?_)
  ((first | refine Rel.nwD H ?_ | refine Rel.nw H ?_); clear H; intro w b5 H)
  (first | (refine H.wg ?_; clear H; intros; rename_i w H; constructor) | refine wk ?_)
  refine (validate_value H.data hv0 hB).use ?_
  rintro q w ⟨rfl, K⟩
  (have hKb := K.base; replace H := H.call0 K)
  (first | (refine H.wh ?_; clear H; intros; rename_i w H; constructor) | refine wk ?_)
  ((first | refine Rel.nwD H ?_ | refine Rel.nw H ?_); clear H; intro w b6 H)
  by_cases hvf : (vfault v).1 = 0
  rotate_left
  · have e : frRes v (txtShape v).isSome (txtMake v b) = ([], vfault v) := by unfold frRes; rw [if_pos hvf]
    rw [e]
    (first | (refine H.wg ?_; clear H; intros; rename_i w H; constructor) | refine wk ?_)
    ((first | refine draw_vcQ (id := 3) tabOk mixed [] [0, 1, 2] (by kernel_rfl) ?_ | refine draw_vcQ (id := 9) tabOk mixed [] [0, 1, 2] (by kernel_rfl) ?_ | refine draw_vcQ (id := 12) tabOk mixed [] [0, 1, 2] (by kernel_rfl) ?_ | refine draw_vcQ (id := 15) tabOk mixed [] [0, 1, 2] (by kernel_rfl) ?_ | refine draw_vcQ (id := 18) tabOk mixed [] [0, 1, 2] (by kernel_rfl) ?_); intro w hdw; replace H := Rel.ext H hdw.ext)
    (first | (refine H.wg ?_; clear H; intros; rename_i w H; constructor) | refine wk ?_)
    exact ⟨V, ⟨none, 0, 0⟩, Sub.refl _, H.sx, rfl, SlF.nil _ _⟩
  have hzz := vfault_zz hvf
  rw [hzz]
  by_cases hk2 : k = 2
  rotate_left
  · have hsn : txtShape v = none := by unfold txtShape; rw [if_neg (by rw [← ek]; exact hk2)]
    rw [hsn]
    have e : frRes v (none : Option (List UInt8)).isSome (txtMake v b) = ([], 13, 0) := by unfold frRes; rw [if_neg (fun h => h hvf)]; rfl
    rw [e]
    (first | (refine H.wg ?_; clear H; intros; rename_i w H; constructor) | refine wk ?_)
    refine (fault_txt H.data 13 0).use ?_
    rintro q w ⟨rfl, K⟩
    (have hKb := K.base; replace H := H.call0 K)
    (first | (refine H.wg ?_; clear H; intros; rename_i w H; constructor) | refine wk ?_)
    exact ⟨V, ⟨none, 0, 0⟩, Sub.refl _, H.sx, rfl, SlF.nil _ _⟩
  have hsn : txtShape v = some v.bytes := by unfold txtShape; rw [if_pos (by rw [← ek]; exact hk2)]
  have hve := valid_byt (valid_node hvf).1 (by rw [← ek]; exact hk2)
  have hmk : txtMake v b = match txtOut v.bytes b with
      | none => none
      | some o => open Classical in if o.length ≤ 1000 ∧ txtTo o = some (v, b) then some o else none := by
    unfold txtMake
    rw [hsn]
    rfl
  rw [hsn]
  have badE : txtMake v b = none → frRes v (some v.bytes).isSome (txtMake v b) = ([], 6, -2) := fun h => by
    rw [h]
    unfold frRes
    rw [if_neg (fun h => h hvf)]
    rfl
  (first | (refine H.wg ?_; clear H; intros; rename_i w H; constructor) | refine wk ?_)
  refine (fault_txt H.data 6 (-2)).use ?_
  rintro q w ⟨rfl, K⟩
  (have hKb := K.base; replace H := H.call0 K)
  (first | (refine H.wh ?_; clear H; intros; rename_i w H; constructor) | refine wk ?_)
  ((first | refine Rel.nwD H ?_ | refine Rel.nw H ?_); clear H; intro w b7 H)
  (first | (refine H.wg ?_; clear H; intros; rename_i w H; constructor) | refine wk ?_)
  refine (read_txt H.data hs (by omega)).use ?_
  rintro q w ⟨V2, e, r, hV2, K, hres⟩
  (have hKb := K.base; replace H := H.call0 K)
  cases hr : txtRd b with
  | none =>
    rw [hr] at hres
    obtain rfl := hres
    have e := badE (by rw [hmk]; unfold txtOut; rw [hr])
    (first | (refine H.wh ?_; clear H; intros; rename_i w H; constructor) | refine wk ?_)
    ((first | refine Rel.nwD H ?_ | refine Rel.nw H ?_); clear H; intro w b8 H)
    rw [e]
    (first | (refine H.wg ?_; clear H; intros; rename_i w H; constructor) | refine wk ?_)
    ((first | refine draw_vcQ (id := 3) tabOk mixed [] [0, 1, 2] (by kernel_rfl) ?_ | refine draw_vcQ (id := 9) tabOk mixed [] [0, 1, 2] (by kernel_rfl) ?_ | refine draw_vcQ (id := 12) tabOk mixed [] [0, 1, 2] (by kernel_rfl) ?_ | refine draw_vcQ (id := 15) tabOk mixed [] [0, 1, 2] (by kernel_rfl) ?_ | refine draw_vcQ (id := 18) tabOk mixed [] [0, 1, 2] (by kernel_rfl) ?_); intro w hdw; replace H := Rel.ext H hdw.ext)
    (first | (refine H.wg ?_; clear H; intros; rename_i w H; constructor) | refine wk ?_)
    exact ⟨V2, ⟨none, 0, 0⟩, hV2, H.sx, rfl, SlF.nil _ _⟩
  | some x =>
    obtain ⟨e', rs⟩ := x
    rw [hr] at hres
    obtain ⟨rfl, rfl, hrr⟩ := hres
    obtain ⟨h5, ho, hsum, _, _⟩ := txtRd_some hr
    have hos := runsOk_small ho
    have hpos := runsOk_pos ho
    (first | (refine H.wh ?_; clear H; intros; rename_i w H; constructor) | refine wk ?_)
    ((first | refine Rel.nwD H ?_ | refine Rel.nw H ?_); clear H; intro w b8 H)
    (first | (refine H.wg ?_; clear H; intros; rename_i w H; constructor) | refine wk ?_)
    refine (valid_spec H.data (tabs_up hT hV2) (hby.up hV2) (by omega)).use ?_
    rintro q w ⟨rfl, K⟩
    (have hKb := K.base; replace H := H.call0 K)
    cases hch : chars v.bytes with
    | none =>
      have e := badE (by rw [hmk]; unfold txtOut; rw [hr]; simp only; rw [hch])
      rw [e]
      (first | (refine H.wg ?_; clear H; intros; rename_i w H; constructor) | refine wk ?_)
      ((first | refine draw_vcQ (id := 3) tabOk mixed [] [0, 1, 2] (by kernel_rfl) ?_ | refine draw_vcQ (id := 9) tabOk mixed [] [0, 1, 2] (by kernel_rfl) ?_ | refine draw_vcQ (id := 12) tabOk mixed [] [0, 1, 2] (by kernel_rfl) ?_ | refine draw_vcQ (id := 15) tabOk mixed [] [0, 1, 2] (by kernel_rfl) ?_ | refine draw_vcQ (id := 18) tabOk mixed [] [0, 1, 2] (by kernel_rfl) ?_); intro w hdw; replace H := Rel.ext H hdw.ext)
      (first | (refine H.wg ?_; clear H; intros; rename_i w H; constructor) | refine wk ?_)
      exact ⟨V2, ⟨none, 0, 0⟩, hV2, H.sx, rfl, SlF.nil _ _⟩
    | some l =>
      obtain ⟨hcl, hcf⟩ := chars_iff.1 hch
      have hll : l.length ≤ v.bytes.length := by rw [← hcf]; exact flat_u8_le
      obtain ⟨hcs, htr⟩ := txtCs_eq hr l
      (first | (refine H.wg ?_; clear H; intros; rename_i w H; constructor) | refine wk ?_)
      refine (join_txt H.data (hby.up hV2) hbl hch hrr (by omega) (fun r hr => ⟨(hos.2 r hr).1, hpos r hr, by have := (hos.2 r hr).2; omega⟩) htr).use ?_
      rw [hcs]
      rintro q w ⟨V3, r3, hV3, K, hj⟩
      (have hKb := K.base; replace H := H.call0 K)
      cases hcc : txtCs b rs l with
      | none =>
        rw [hcc] at hj
        obtain rfl := hj
        have e := badE (by rw [hmk]; unfold txtOut; rw [hr]; simp only; rw [hch]; simp only; rw [hcc])
        rw [e]
        (first | (refine H.wg ?_; clear H; intros; rename_i w H; constructor) | refine wk ?_)
        ((first | refine draw_vcQ (id := 3) tabOk mixed [] [0, 1, 2] (by kernel_rfl) ?_ | refine draw_vcQ (id := 9) tabOk mixed [] [0, 1, 2] (by kernel_rfl) ?_ | refine draw_vcQ (id := 12) tabOk mixed [] [0, 1, 2] (by kernel_rfl) ?_ | refine draw_vcQ (id := 15) tabOk mixed [] [0, 1, 2] (by kernel_rfl) ?_ | refine draw_vcQ (id := 18) tabOk mixed [] [0, 1, 2] (by kernel_rfl) ?_); intro w hdw; replace H := Rel.ext H hdw.ext)
        (first | (refine H.wg ?_; clear H; intros; rename_i w H; constructor) | refine wk ?_)
        exact ⟨V3, ⟨none, 0, 0⟩, hV2.trans hV3, H.sx, rfl, SlF.nil _ _⟩
      | some cs =>
        rw [hcc] at hj
        obtain ⟨rfl, hr3⟩ := hj
        have hcx : (∀ c ∈ cs, isCh c) ∧ cs.length ≤ 2 * l.length := by
          unfold txtCs at hcc
          split at hcc
          · cases hcc; exact ⟨hcl, by omega⟩
          · obtain ⟨a1, a2⟩ := unl_mem hcc
            refine ⟨fun c hc => ?_, a2⟩
            rcases a1 c hc with h | h | h
            · exact hcl c h
            · rw [h]; unfold isCh; omega
            · rw [h]; unfold isCh; omega
        (first | (refine H.wg ?_; clear H; intros; rename_i w H; constructor) | refine wk ?_)
        refine (encode_txt H.data hr3 (by omega) hcx.1 h5).use ?_
        rintro q w ⟨V4, r4, hV4, K, he⟩
        (have hKb := K.base; replace H := H.call0 K)
        have hout : txtOut v.bytes b = encC e' cs := by unfold txtOut; rw [hr]; simp only; rw [hch]; simp only; rw [hcc]
        cases hen : encC e' cs with
        | none =>
          rw [hen] at he
          obtain rfl := he
          have e := badE (by rw [hmk, hout, hen])
          rw [e]
          (first | (refine H.wg ?_; clear H; intros; rename_i w H; constructor) | refine wk ?_)
          ((first | refine draw_vcQ (id := 3) tabOk mixed [] [0, 1, 2] (by kernel_rfl) ?_ | refine draw_vcQ (id := 9) tabOk mixed [] [0, 1, 2] (by kernel_rfl) ?_ | refine draw_vcQ (id := 12) tabOk mixed [] [0, 1, 2] (by kernel_rfl) ?_ | refine draw_vcQ (id := 15) tabOk mixed [] [0, 1, 2] (by kernel_rfl) ?_ | refine draw_vcQ (id := 18) tabOk mixed [] [0, 1, 2] (by kernel_rfl) ?_); intro w hdw; replace H := Rel.ext H hdw.ext)
          (first | (refine H.wg ?_; clear H; intros; rename_i w H; constructor) | refine wk ?_)
          exact ⟨V4, ⟨none, 0, 0⟩, (hV2.trans hV3).trans hV4, H.sx, rfl, SlF.nil _ _⟩
        | some O =>
          rw [hen] at he
          obtain ⟨rfl, hO⟩ := he
          have hOl := encC_le hen
          rw [hout, hen] at hmk
          simp only at hmk
          (first | (refine H.wg ?_; clear H; intros; rename_i w H; constructor) | refine wk ?_)
          refine (to_txt H.data (tabs_up hT ((hV2.trans hV3).trans hV4)) hO (by omega)).use ?_
          rintro q w ⟨V5, hh, rr, hV5, K, rfl, hvv, hrr2⟩
          (have hKb := K.base; replace H := H.call0 K)
          have hV25 := ((hV2.trans hV3).trans hV4).trans hV5
          by_cases hO1 : 1000 < O.length
          · have et : toRes (txtTo O) O.length = ⟨zeroV, [], 3, -1⟩ := by unfold toRes; rw [if_pos hO1]
            rw [et]
            have e := badE (by rw [hmk, if_neg]; intro h; omega)
            (first | (refine H.wh ?_; clear H; intros; rename_i w H; constructor) | refine wk ?_)
            ((first | refine Rel.nwD H ?_ | refine Rel.nw H ?_); clear H; intro w b12 H)
            (first | (refine H.wh ?_; clear H; intros; rename_i w H; constructor) | refine wk ?_)
            ((first | refine Rel.nwD H ?_ | refine Rel.nw H ?_); clear H; intro w b14 H)
            rw [e]
            (first | (refine H.wg ?_; clear H; intros; rename_i w H; constructor) | refine wk ?_)
            ((first | refine draw_vcQ (id := 3) tabOk mixed [] [0, 1, 2] (by kernel_rfl) ?_ | refine draw_vcQ (id := 9) tabOk mixed [] [0, 1, 2] (by kernel_rfl) ?_ | refine draw_vcQ (id := 12) tabOk mixed [] [0, 1, 2] (by kernel_rfl) ?_ | refine draw_vcQ (id := 15) tabOk mixed [] [0, 1, 2] (by kernel_rfl) ?_ | refine draw_vcQ (id := 18) tabOk mixed [] [0, 1, 2] (by kernel_rfl) ?_); intro w hdw; replace H := Rel.ext H hdw.ext)
            (first | (refine H.wg ?_; clear H; intros; rename_i w H; constructor) | refine wk ?_)
            exact ⟨V5, ⟨none, 0, 0⟩, hV25, H.sx, rfl, SlF.nil _ _⟩
          cases hto : txtTo O with
          | none =>
            rw [hto] at hvv hrr2
            have et : toRes none O.length = ⟨zeroV, [], 21, -1⟩ := by unfold toRes; rw [if_neg hO1]
            rw [et]
            have e := badE (by rw [hmk, if_neg]; intro h; rw [hto] at h; cases h.2)
            (first | (refine H.wh ?_; clear H; intros; rename_i w H; constructor) | refine wk ?_)
            ((first | refine Rel.nwD H ?_ | refine Rel.nw H ?_); clear H; intro w b12 H)
            (first | (refine H.wh ?_; clear H; intros; rename_i w H; constructor) | refine wk ?_)
            ((first | refine Rel.nwD H ?_ | refine Rel.nw H ?_); clear H; intro w b14 H)
            rw [e]
            (first | (refine H.wg ?_; clear H; intros; rename_i w H; constructor) | refine wk ?_)
            ((first | refine draw_vcQ (id := 3) tabOk mixed [] [0, 1, 2] (by kernel_rfl) ?_ | refine draw_vcQ (id := 9) tabOk mixed [] [0, 1, 2] (by kernel_rfl) ?_ | refine draw_vcQ (id := 12) tabOk mixed [] [0, 1, 2] (by kernel_rfl) ?_ | refine draw_vcQ (id := 15) tabOk mixed [] [0, 1, 2] (by kernel_rfl) ?_ | refine draw_vcQ (id := 18) tabOk mixed [] [0, 1, 2] (by kernel_rfl) ?_); intro w hdw; replace H := Rel.ext H hdw.ext)
            (first | (refine H.wg ?_; clear H; intros; rename_i w H; constructor) | refine wk ?_)
            exact ⟨V5, ⟨none, 0, 0⟩, hV25, H.sx, rfl, SlF.nil _ _⟩
          | some y =>
            obtain ⟨wv, wr⟩ := y
            have et : toRes (some (wv, wr)) O.length = ⟨wv, wr, 0, 0⟩ := by unfold toRes; rw [if_neg hO1]
            rw [hto, et] at hvv hrr2
            rw [et]
            dsimp only at hvv hrr2 ⊢
            obtain ⟨cs2, e2, T⟩ := txtTo_some hto
            have hwv := T.val
            have hcond : (O.length ≤ 1000 ∧ txtTo O = some (v, b)) ↔ (wv.bytes = v.bytes ∧ wr = b) := by
              rw [hto]
              constructor
              · rintro ⟨_, h⟩
                simp only [Option.some.injEq, Prod.mk.injEq] at h
                exact ⟨by rw [h.1], h.2⟩
              · rintro ⟨e1, e2⟩
                refine ⟨by omega, ?_⟩
                rw [e2, hve, ← e1, hwv]
            have hwb := hvv.bytes
            obtain ⟨hk, hn, hbs, hss, hpl2⟩ := hh
            dsimp only at hwb
            (first | (refine H.wh ?_; clear H; intros; rename_i w H; constructor) | refine wk ?_)
            ((first | refine Rel.nwD H ?_ | refine Rel.nw H ?_); clear H; intro w b12 H)
            (first | (refine H.wh ?_; clear H; intros; rename_i w H; constructor) | refine wk ?_)
            ((first | refine Rel.nwD H ?_ | refine Rel.nw H ?_); clear H; intro w b14 H)
            (first | (refine H.wg ?_; clear H; intros; rename_i w H; constructor) | refine wk ?_)
            refine (equal_bytes H.data hwb (hby.up hV25)).use ?_
            rintro q w ⟨rfl, K⟩
            (have hKb := K.base; replace H := Rel.call H K)
            simp only [List.nil_append] at H
            by_cases hc1 : wv.bytes = v.bytes
            rotate_left
            · rw [decide_eq_false hc1]
              have e := badE (by rw [hmk, if_neg]; intro h; exact hc1 (hcond.1 h).1)
              rw [e]
              (first | (refine H.wg ?_; clear H; intros; rename_i w H; constructor) | refine wk ?_)
              ((first | refine draw_vcQ (id := 3) tabOk mixed [] [0, 1, 2] (by kernel_rfl) ?_ | refine draw_vcQ (id := 9) tabOk mixed [] [0, 1, 2] (by kernel_rfl) ?_ | refine draw_vcQ (id := 12) tabOk mixed [] [0, 1, 2] (by kernel_rfl) ?_ | refine draw_vcQ (id := 15) tabOk mixed [] [0, 1, 2] (by kernel_rfl) ?_ | refine draw_vcQ (id := 18) tabOk mixed [] [0, 1, 2] (by kernel_rfl) ?_); intro w hdw; replace H := Rel.ext H hdw.ext)
              (first | (refine H.wg ?_; clear H; intros; rename_i w H; constructor) | refine wk ?_)
              exact ⟨V5, ⟨none, 0, 0⟩, hV25, H.sx, rfl, SlF.nil _ _⟩
            rw [decide_eq_true hc1]
            (first | (refine H.wg ?_; clear H; intros; rename_i w H; constructor) | refine wk ?_)
            refine (equal_bytes H.data hrr2 (hs.up hV25)).use ?_
            rintro q w ⟨rfl, K⟩
            (have hKb := K.base; replace H := Rel.call H K)
            simp only [List.nil_append] at H
            by_cases hc2 : wr = b
            rotate_left
            · rw [decide_eq_false hc2]
              have e := badE (by rw [hmk, if_neg]; intro h; exact hc2 (hcond.1 h).2)
              rw [e]
              (first | (refine H.wg ?_; clear H; intros; rename_i w H; constructor) | refine wk ?_)
              ((first | refine draw_vcQ (id := 3) tabOk mixed [] [0, 1, 2] (by kernel_rfl) ?_ | refine draw_vcQ (id := 9) tabOk mixed [] [0, 1, 2] (by kernel_rfl) ?_ | refine draw_vcQ (id := 12) tabOk mixed [] [0, 1, 2] (by kernel_rfl) ?_ | refine draw_vcQ (id := 15) tabOk mixed [] [0, 1, 2] (by kernel_rfl) ?_ | refine draw_vcQ (id := 18) tabOk mixed [] [0, 1, 2] (by kernel_rfl) ?_); intro w hdw; replace H := Rel.ext H hdw.ext)
              (first | (refine H.wg ?_; clear H; intros; rename_i w H; constructor) | refine wk ?_)
              exact ⟨V5, ⟨none, 0, 0⟩, hV25, H.sx, rfl, SlF.nil _ _⟩
            rw [decide_eq_true hc2]
            have e : frRes v (some v.bytes).isSome (txtMake v b) = (O, 0, 0) := by
              rw [hmk, if_pos (hcond.2 ⟨hc1, hc2⟩)]
              unfold frRes
              rw [if_neg (fun h => h hvf)]
              rfl
            rw [e]
            (first | (refine H.wg ?_; clear H; intros; rename_i w H; constructor) | refine wk ?_)
            exact ⟨V5, r4, hV25, H.sx, rfl, hO.up hV5⟩
end
end Go.Proofs.YtgnaojphgdaalaaDoor
