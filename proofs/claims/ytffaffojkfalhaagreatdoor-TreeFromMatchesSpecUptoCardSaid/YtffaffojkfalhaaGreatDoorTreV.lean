/-
  Files of trees, the reference: valueAt, TreeTo.
-/
import Derived.Test.YtffaffojkfalhaaGreatDoorTreT
import Derived.Test.YtffaffojkfalhaaGreatDoorTreC
import Derived.Test.YtffaffojkfalhaaGreatDoorTreU
namespace Go.Proofs.YtffaffojkfalhaaGreatDoor
open Go Go.RowKit

/-- what valueAt returns -/
structure VaR (W V : World) (ts : List Tok) (o : Option (Val × List Tok)) (q : Value) (w' : World) : Prop where
  ex : ∃ (V' : World) (h : VH) (next : Int) (k : Bool), Sub V V' ∧ Rel W V [] V' w' ∧ q = .tuple #[valV h, iv next, .bool k] ∧ (match o with
    | none => k = false
    | some x => k = true ∧ ValAt V' h x.1 ∧ ∃ m : Nat, next = m ∧ m ≤ ts.length ∧ ts.drop m = x.2)
theorem vaE_four (f : VaF) (ns : List (List UInt8)) (t : Tok) (r : List Tok) : vaE f 4 ns (t :: r) = match r with
    | c :: r' => if nameOk t = true ∧ c = [58] then (match f r' with
      | none => none
      | some (v, q) => some (ns ++ [t], v, q)) else none
    | [] => none := by
  unfold vaE
  rw [if_pos rfl]
  cases r <;> rfl
theorem vaE_three (f : VaF) (ns : List (List UInt8)) (ts : List Tok) : vaE f 3 ns ts = match f ts with
    | none => none
    | some (v, q) => some (ns, v, q) := by
  unfold vaE
  rw [if_neg (by decide)]
  cases f ts <;> rfl
theorem vaV_end (n : Nat) (r : List Tok) : vaV n ([93] :: r) = none := by
  cases n with
  | zero => rfl
  | succ n =>
    have h : trNum [93] = none := num_byte (i := 0) (by decide) (by decide) (by decide)
    rw [vaV, if_neg (by decide), if_neg (by decide), if_neg (by decide), h]
/-- what becomes of a part that was read -/
def vaK (f : VaF) (k : Int) (m : Nat) (ns : List (List UInt8)) (ps : List Val) (o : Option (Val × List Tok)) : Option VL := match o with
  | none => none
  | some (v, q) => match q with
    | [] => none
    | u :: q' => if u = enT k then some (ns, ps ++ [v], q') else if u = [44] then vaL f k m (ns, ps ++ [v], q') else none
theorem vaL_three {f : VaF} (hf : f [] = none) (m : Nat) {ns : List (List UInt8)} {ps : List Val} {t : Tok} {r : List Tok} (h : ¬ (t = [93] ∧ ps = [])) : vaL f 3 (m + 1) (ns, ps, t :: r) = vaK f 3 m ns ps (f (t :: r)) := by
  rw [vaL_step hf 3 m h, vaE_three]
  unfold vaK
  cases f (t :: r) <;> rfl
theorem vaL_four {f : VaF} (hf : f [] = none) (m : Nat) {ns : List (List UInt8)} {ps : List Val} {t : Tok} {r : List Tok} (h : ¬ (t = [125] ∧ ps = [])) : vaL f 4 (m + 1) (ns, ps, t :: r) = match r with
    | c :: r' => if nameOk t = true ∧ c = [58] then vaK f 4 m (ns ++ [t]) ps (f r') else none
    | [] => none := by
  rw [vaL_step hf 4 m h, vaE_four]
  cases r with
  | nil => rfl
  | cons c r' =>
    simp only
    by_cases h2 : nameOk t = true ∧ c = [58]
    · rw [if_pos h2, if_pos h2]
      unfold vaK
      cases f r' <;> rfl
    · rw [if_neg h2, if_neg h2]
abbrev VlA (vb a9 b6 : Nat) (k : Int) (ns ps : Sl) (nms : List (List UInt8)) (vh : List VH) (c9 c6 : List Value) : List Res := [.blk vb [iv k, iv 0, .slice none 0 0, ns.v, ps.v] 27, .row ns 9 1 (nms.flatMap strC), .row ps 27 5 (vh.flatMap valC), .blk a9 c9 27, .blk b6 c6 27]
set_option maxRecDepth 100000 in
set_option maxHeartbeats 4000000 in
theorem valueAt_ref : ∀ (n : Nat) {V W : World}, Sub V W → ∀ {s : Sl} {ts : List Tok} {p : Nat} {lv : Int}, SlF strC V s ts → (∀ t ∈ ts, t ≠ [] ∧ t.length ≤ 1000000) → ts.length ≤ 1000000 → n ≤ 10 → p ≤ ts.length → lv = 11 - (n : Int) →
    Ret Tryz.prog 30 [s.v, iv (p : Int), iv lv].toArray W (VaR W V ts (vaV n (ts.drop p))) := by
  intro n
  induction n with
  | zero =>
    intro V W hV s ts p lv hs hne hl hn hp hlv
    have H := Rel.start hV
    have hlen := hs.len
    refine cal_of_vc tabOk Tryz.func30 rfl (by kernel_rfl) 178 rfl (by simp) [0, 1, 2, 6, 7, 8, 9, 10, 11, 12, 13, 14, 15, 16, 17, 18, 19, 28, 36, 52, 65, 86, 89, 110, 154, 168] ?_
    (first | (refine H.wh ?_; clear H; intros; rename_i w H; constructor) | refine wk ?_)
    ((first | refine Rel.nwD H ?_ | refine Rel.nw H ?_); clear H; intro w b6 H)
    (first | (refine H.wh ?_; clear H; intros; rename_i w H; constructor) | refine wk ?_)
    ((first | refine Rel.nwD H ?_ | refine Rel.nw H ?_); clear H; intro w b9 H)
    by_cases hlt : p < ts.length
    all_goals
      (first | (refine H.wg ?_; clear H; intros; rename_i w H; constructor) | refine wk ?_)
      exact ⟨V, zeroH, _, _, Sub.refl _, H.sx, rfl, rfl⟩
  | succ n ih =>
    intro V W hV s ts p lv hs hne hl hn hp hlv
    have H := Rel.start hV
    have hlen := hs.len
    have hd0 : ∀ q, q ≤ ts.length → ¬ q < ts.length → ts.drop q = [] := fun q _ h => List.drop_eq_nil_of_le (by omega)
    refine cal_of_vc tabOk Tryz.func30 rfl (by kernel_rfl) 178 rfl (by simp) [0, 1, 2, 6, 7, 8, 9, 10, 11, 12, 13, 14, 15, 16, 17, 18, 19, 28, 36, 52, 65, 86, 89, 110, 154, 168] ?_
    (first | (refine H.wh ?_; clear H; intros; rename_i w H; constructor) | refine wk ?_)
    ((first | refine Rel.nwD H ?_ | refine Rel.nw H ?_); clear H; intro w b6 H)
    (first | (refine H.wh ?_; clear H; intros; rename_i w H; constructor) | refine wk ?_)
    ((first | refine Rel.nwD H ?_ | refine Rel.nw H ?_); clear H; intro w b9 H)
    by_cases hlt : p < ts.length
    rotate_left
    · rw [hd0 p hp hlt, vaV_nil]
      (first | (refine H.wg ?_; clear H; intros; rename_i w H; constructor) | refine wk ?_)
      exact ⟨V, zeroH, _, _, Sub.refl _, H.sx, rfl, rfl⟩
    obtain ⟨p0, c0⟩ := hs.at1 (g := str) (fun _ => rfl) hlt
    obtain ⟨ht0, htl⟩ := hne ts[p] (List.getElem_mem hlt)
    have hdr := List.drop_eq_getElem_cons hlt
    obtain ⟨t, ht⟩ : ∃ t, t = ts[p] := ⟨_, rfl⟩
    rw [← ht] at c0 ht0 htl hdr
    obtain ⟨c, hc0, hch⟩ : ∃ c, t[(0 : Int).toNat]? = some c ∧ t.head? = some c := by
      cases t with
      | nil => exact absurd rfl ht0
      | cons c r => exact ⟨c, rfl, rfl⟩
    have hc8 := c.toNat_lt
    rw [hdr, vaV, hch]
    by_cases h34 : c = 34
    · have h34' : c.toNat = 34 := by rw [h34]; rfl
      rw [if_pos (by rw [h34])]
      (first | (refine H.wg ?_; clear H; intros; rename_i w H; constructor) | refine wk ?_)
      refine (unquoted_ref (s := t) H.data htl).use ?_
      rintro q w ⟨V2, r2, b2, k2, hV2, K, rfl, hb2, hbl, hres⟩
      (have hKb := K.base; replace H := Rel.call H K)
      simp only [List.nil_append] at H
      (first | (refine H.wg ?_; clear H; intros; rename_i w H; constructor) | refine wk ?_)
      refine ⟨V2, bytH r2, _, k2, hV2, H.sx, rfl, ?_⟩
      rw [hres]
      cases k2 with
      | false => rfl
      | true => exact ⟨rfl, valAt_byt hb2, p + 1, rfl, hlt, rfl⟩
    have n34 : c.toNat ≠ 34 := fun e => h34 (UInt8.toNat_inj.1 e)
    rw [if_neg (fun e => h34 (by simpa using e))]
    by_cases h91 : t = [91]
    · rw [if_pos h91]
      obtain ⟨full, hfull⟩ : ∃ full, full = vaB (vaV n) 3 (ts.drop (p + 1)) := ⟨_, rfl⟩
      rw [← hfull]
      rw [vaB_vaL] at hfull
      subst h91
      obtain rfl : c = 91 := (Option.some.inj hch).symm
      (first | (refine H.wh ?_; clear H; intros; rename_i w H; constructor) | refine wk ?_)
      ((first | refine Rel.nwD H ?_ | refine Rel.nw H ?_); clear H; intro w b15 H)
      (first | (refine H.wg ?_; clear H; intros; rename_i w H; constructor) | refine wk ?_)
      replace H := (H.rowNil 27 5).rowNil 9 1
      have H0 : Rel W V (VlA b15 b9 b6 3 ⟨none, 0, 0⟩ ⟨none, 0, 0⟩ [] [] (valC zeroH) (valC zeroH)) V w := H.pick
      clear H
      refine SemC.cut 0 (fun z : Nat × Sl × Sl × List Tok × List VH × List Val => [(0, s.v), (1, iv (z.1 : Int)), (6, .pointer (some ⟨b6, 0, none⟩)), (15, .pointer (some ⟨b15, 0, none⟩))]) (fun z w' => z.1 ≤ ts.length ∧ (z.1 < ts.length → full = some (z.2.2.2.1, z.2.2.2.2.2, ts.drop (z.1 + 1))) ∧ (¬ z.1 < ts.length → full = none) ∧ ∃ V', Sub V V' ∧ Pw ValAt V' z.2.2.2.2.1 z.2.2.2.2.2 ∧ Rel W V (VlA b15 b9 b6 3 z.2.1 z.2.2.1 z.2.2.2.1 z.2.2.2.2.1 (valC zeroH) (valC zeroH)) V' w') ?_ ?_
      · refine loop_inv (S := Nat × Sl × Sl × List Tok × List VH × List Val) tabOk [0, 2, 6, 9, 10, 11, 12, 13, 14, 15, 16, 28, 36, 52, 65] (fun z => [(1, iv (z.1 : Int))]) (fun z w' => z.1 ≤ ts.length ∧ (z.2.2.2.1.length ≤ z.1 ∧ z.2.2.2.2.2.length ≤ z.1) ∧ (∃ m, (ts.drop z.1).length < m ∧ full = vaL (vaV n) 3 m (z.2.2.2.1, z.2.2.2.2.2, ts.drop z.1)) ∧ ∃ V', Sub V V' ∧ Pw ValAt V' z.2.2.2.2.1 z.2.2.2.2.2 ∧ Rel W V (VlA b15 b9 b6 3 z.2.1 z.2.2.1 z.2.2.2.1 z.2.2.2.2.1 (valC zeroH) (valC zeroH)) V' w') (fun z _ => ts.length - z.1) (p + 1, ⟨none, 0, 0⟩, ⟨none, 0, 0⟩, [], [], []) ?_
        (conv => whnf)
        refine ⟨(by repeat (first | exact trivial | refine ⟨rfl, ?_⟩)), ⟨hlt, ⟨Nat.zero_le _, Nat.zero_le _⟩, ⟨_, Nat.lt_succ_self _, hfull⟩, V, Sub.refl _, Pw.nil, H0⟩, ?_⟩
        clear H0 hfull
        rintro ⟨q, ns, ps, nms, vh, vs⟩ w ⟨hq, ⟨hnl, hvl⟩, ⟨m, hm, hE⟩, V2, hV2, hP, H⟩
        dsimp only at hq hnl hvl hm hE hP H ⊢
        have hvh := hP.len
        simp only [VlA] at H
        have hpsl := H.rowLen (i := 2) rfl (fun _ => rfl) (by decide)
        by_cases hql : q < ts.length
        rotate_left
        · have hno : full = none := by rw [hE, hd0 q hq hql]; rfl
          (first | (refine H.wg ?_; clear H; intros; rename_i w H; constructor) | refine wk ?_)
          exact ⟨(q, ns, ps, nms, vh, vs), (by repeat (first | exact trivial | refine ⟨rfl, ?_⟩)), hq, fun h => absurd h hql, fun _ => hno, V2, hV2, hP, H⟩
        obtain ⟨p2, c2⟩ := (hs.up hV2).at1 (g := str) (fun _ => rfl) hql
        have hdr2 := List.drop_eq_getElem_cons hql
        obtain ⟨u, hu⟩ : ∃ u, u = ts[q] := ⟨_, rfl⟩
        rw [← hu] at c2 hdr2
        rw [List.length_drop] at hm
        obtain ⟨m, rfl⟩ : ∃ m', m = m' + 1 := ⟨m - 1, by omega⟩
        rw [hdr2] at hE
        by_cases hue : u = [93]
        · by_cases hvs : vs = []
          · have hvl0 : vs.length = 0 := by rw [hvs]; rfl
            have hyes : full = some (nms, vs, ts.drop (q + 1)) := by rw [hE, hvs, hue]; rfl
            subst hue
            (first | (refine H.wg ?_; clear H; intros; rename_i w H; constructor) | refine wk ?_)
            exact ⟨(q, ns, ps, nms, vh, vs), (by repeat (first | exact trivial | refine ⟨rfl, ?_⟩)), hq, fun _ => hyes, fun h => absurd hql h, V2, hV2, hP, H⟩
          · have hvl0 : vs.length ≠ 0 := fun h => hvs (List.eq_nil_of_length_eq_zero h)
            have hno : full = none := by rw [hE, vaL_three (vaV_nil n) _ (fun h => hvs h.2), hue, vaV_end]; rfl
            rw [hue] at c2
            (first | (refine H.wg ?_; clear H; intros; rename_i w H; constructor) | refine wk ?_)
            refine (ih H.data (p := q) (lv := lv + 1) (hs.up hV2) hne hl (by omega) (by omega) (by omega)).use ?_
            rintro q1 w ⟨V3, h3, nx, k3, hV3, K, rfl, hres⟩
            (have hKb := K.base; replace H := Rel.call H K)
            simp only [List.nil_append] at H
            have hV23 := hV2.trans hV3
            (first | (refine H.wh ?_; clear H; intros; rename_i w H; constructor) | refine wk ?_)
            ((first | refine Rel.nwD H ?_ | refine Rel.nw H ?_); clear H; intro w b17 H)
            rw [hdr2, hue, vaV_end] at hres
            dsimp only at hres
            subst hres
            rw [hno]
            (first | (refine H.wg ?_; clear H; intros; rename_i w H; constructor) | refine wk ?_)
            exact ⟨_, zeroH, _, _, hV23, H.sx, rfl, rfl⟩
        rw [vaL_three (vaV_nil n) _ (fun h => hue h.1), ← hdr2] at hE
        (first | (refine H.wg ?_; clear H; intros; rename_i w H; constructor) | refine wk ?_)
        refine condG_true (by simp [hue]) ?_
        (first | (refine H.wg ?_; clear H; intros; rename_i w H; constructor) | refine wk ?_)
        refine (ih H.data (p := (q)) (lv := lv + 1) (hs.up hV2) hne hl (by omega) (by omega) (by omega)).use ?_
        rintro q1 w ⟨V3, h3, nx, k3, hV3, K, rfl, hres⟩
        (have hKb := K.base; replace H := Rel.call H K)
        simp only [List.nil_append] at H
        have hV23 := hV2.trans hV3
        (first | (refine H.wh ?_; clear H; intros; rename_i w H; constructor) | refine wk ?_)
        ((first | refine Rel.nwD H ?_ | refine Rel.nw H ?_); clear H; intro w b17 H)
        cases hf : vaV n (ts.drop (q)) with
        | none =>
          rw [hf] at hres hE
          dsimp only at hres
          subst hres
          rw [hE]
          (first | (refine H.wg ?_; clear H; intros; rename_i w H; constructor) | refine wk ?_)
          exact ⟨_, zeroH, _, _, hV23, H.sx, rfl, rfl⟩
        | some y =>
          obtain ⟨v1, r1⟩ := y
          rw [hf] at hres hE
          obtain ⟨rfl, hva, m1, rfl, hm1, hdm⟩ := hres
          dsimp only at hva hdm hE
          have hok := congrArg List.length (vaV_ok n _ _ _ hf).1
          rw [List.length_append, List.length_drop, ← hdm, List.length_drop] at hok
          have htn := List.length_pos_iff.2 (tokV_ne v1)
          by_cases hml : m1 < ts.length
          rotate_left
          · rw [← hdm, hd0 m1 hm1 hml] at hE
            rw [hE]
            (first | (refine H.wg ?_; clear H; intros; rename_i w H; constructor) | refine wk ?_)
            exact ⟨_, zeroH, _, _, hV23, H.sx, rfl, rfl⟩
          obtain ⟨p3, c3⟩ := (hs.up hV23).at1 (g := str) (fun _ => rfl) hml
          have hdr3 := List.drop_eq_getElem_cons hml
          obtain ⟨u1, hu1⟩ : ∃ u1, u1 = ts[m1] := ⟨_, rfl⟩
          rw [← hu1] at c3 hdr3
          rw [← hdm, hdr3] at hE
          replace hE : full = if u1 = [93] then some (nms, vs ++ [v1], ts.drop (m1 + 1)) else if u1 = [44] then vaL (vaV n) 3 m (nms, vs ++ [v1], ts.drop (m1 + 1)) else none := hE
          have hP3 := (hP.up valAt_up hV3).snoc hva
          by_cases he : u1 = [93]
          · subst he
            rw [if_pos rfl] at hE
            (first | (refine H.wh ?_; clear H; intros; rename_i w H; constructor) | refine wk ?_)
            ((first | refine Rel.nwD H ?_ | refine Rel.nw H ?_); clear H; intro w b159 H)
            (first | (refine H.wg ?_; clear H; intros; rename_i w H; constructor) | refine wk ?_)
            refine Rel.app1_3 (f := valC) (s := ps) (l := vh) (x := h3) tabOk rfl rfl rfl rfl rfl (by decide) (fun _ => rfl) (by simp [Value.oneCell']) H (by show (vh.length + 1) * 88 ≤ _; omega) (by omega) ?_
            clear H
            intro ps2 w H
            (first | (refine H.wg ?_; clear H; intros; rename_i w H; constructor) | refine wk ?_)
            exact ⟨(m1, ns, ps2, nms, vh ++ [h3], vs ++ [v1]), (by repeat (first | exact trivial | refine ⟨rfl, ?_⟩)), hm1, fun _ => hE, fun h => absurd hml h, V3, hV23, hP3, H.sx⟩
          rw [if_neg he] at hE
          by_cases h44 : u1 = [44]
          · subst h44
            rw [if_pos rfl] at hE
            (first | (refine H.wh ?_; clear H; intros; rename_i w H; constructor) | refine wk ?_)
            ((first | refine Rel.nwD H ?_ | refine Rel.nw H ?_); clear H; intro w b159 H)
            (first | (refine H.wg ?_; clear H; intros; rename_i w H; constructor) | refine wk ?_)
            refine Rel.app1_3 (f := valC) (s := ps) (l := vh) (x := h3) tabOk rfl rfl rfl rfl rfl (by decide) (fun _ => rfl) (by simp [Value.oneCell']) H (by show (vh.length + 1) * 88 ≤ _; omega) (by omega) ?_
            clear H
            intro ps2 w H
            (first | (refine H.wg ?_; clear H; intros; rename_i w H; constructor) | refine wk ?_)
            exact ⟨(by repeat (first | exact trivial | refine ⟨rfl, ?_⟩)), (m1 + 1, ns, ps2, nms, vh ++ [h3], vs ++ [v1]), (by repeat (first | exact trivial | refine ⟨rfl, ?_⟩)), ⟨hml, ⟨by dsimp only; first | omega | (rw [List.length_append, List.length_singleton]; omega), by dsimp only; rw [List.length_append, List.length_singleton]; omega⟩, ⟨m, by dsimp only; rw [List.length_drop]; omega, hE⟩, V3, hV23, hP3, H.sx⟩, by dsimp only; omega⟩
          · rw [if_neg h44] at hE
            rw [hE]
            (first | (refine H.wg ?_; clear H; intros; rename_i w H; constructor) | refine wk ?_)
            refine condG_true (by simp [h44]) ?_
            (first | (refine H.wg ?_; clear H; intros; rename_i w H; constructor) | refine wk ?_)
            refine condG_true (by simp [he]) ?_
            (first | (refine H.wg ?_; clear H; intros; rename_i w H; constructor) | refine wk ?_)
            exact ⟨_, zeroH, _, _, hV23, H.sx, rfl, rfl⟩
      clear H0
      rintro ⟨q, ns, ps, nms, vh, vs⟩ w ⟨hq, hyes, hno, V2, hV2, hP, H⟩
      dsimp only at hq hyes hno hP H ⊢
      simp only [VlA] at H
      (first | (refine H.wg ?_; clear H; intros; rename_i w H; constructor) | refine wk ?_)
      have hx : full = none ∨ full = some (nms, vs, ts.drop (q + 1)) ∧ q < ts.length := by
        by_cases hql : q < ts.length
        · exact .inr ⟨hyes hql, hql⟩
        · exact .inl (hno hql)
      have H2 : Rel W V [.row ns 9 1 (nms.flatMap strC), .row ps 27 5 (vh.flatMap valC)] V2 w := H.sx
      obtain ⟨V3, hV3, H3, hns⟩ := H2.freezeF (fun _ => rfl) (by decide)
      obtain ⟨V4, hV4, H4, hps⟩ := H3.freezeF (fun _ => rfl) (by decide)
      refine ⟨V4, ⟨3, 0, ⟨none, 0, 0⟩, ns, ps⟩, _, _, (hV2.trans hV3).trans hV4, H4, rfl, ?_⟩
      by_cases hql : q < ts.length
      · rw [hyes hql]
        have hP4 := (hP.up valAt_up hV3).up valAt_up hV4
        exact ⟨decide_eq_true (by omega), .mk vh rfl rfl (SlF.nil _ _) (hns.up hV4) hps hP4.len hP4.all, q + 1, rfl, by omega, rfl⟩
      · rw [hno hql]
        exact decide_eq_false (by omega)
    rw [if_neg h91]
    by_cases h123 : t = [123]
    · rw [if_pos h123]
      obtain ⟨full, hfull⟩ : ∃ full, full = vaB (vaV n) 4 (ts.drop (p + 1)) := ⟨_, rfl⟩
      rw [← hfull]
      rw [vaB_vaL] at hfull
      subst h123
      obtain rfl : c = 123 := (Option.some.inj hch).symm
      (first | (refine H.wh ?_; clear H; intros; rename_i w H; constructor) | refine wk ?_)
      ((first | refine Rel.nwD H ?_ | refine Rel.nw H ?_); clear H; intro w b15 H)
      (first | (refine H.wg ?_; clear H; intros; rename_i w H; constructor) | refine wk ?_)
      replace H := (H.rowNil 27 5).rowNil 9 1
      have H0 : Rel W V (VlA b15 b9 b6 4 ⟨none, 0, 0⟩ ⟨none, 0, 0⟩ [] [] (valC zeroH) (valC zeroH)) V w := H.pick
      clear H
      refine SemC.cut 0 (fun z : Nat × Sl × Sl × List Tok × List VH × List Val => [(0, s.v), (1, iv (z.1 : Int)), (6, .pointer (some ⟨b6, 0, none⟩)), (15, .pointer (some ⟨b15, 0, none⟩))]) (fun z w' => z.1 ≤ ts.length ∧ (z.1 < ts.length → full = some (z.2.2.2.1, z.2.2.2.2.2, ts.drop (z.1 + 1))) ∧ (¬ z.1 < ts.length → full = none) ∧ ∃ V', Sub V V' ∧ Pw ValAt V' z.2.2.2.2.1 z.2.2.2.2.2 ∧ Rel W V (VlA b15 b9 b6 4 z.2.1 z.2.2.1 z.2.2.2.1 z.2.2.2.2.1 (valC zeroH) (valC zeroH)) V' w') ?_ ?_
      · refine loop_inv (S := Nat × Sl × Sl × List Tok × List VH × List Val) tabOk [0, 2, 6, 9, 10, 11, 12, 13, 14, 15, 16, 28, 36, 52, 65] (fun z => [(1, iv (z.1 : Int))]) (fun z w' => z.1 ≤ ts.length ∧ (z.2.2.2.1.length ≤ z.1 ∧ z.2.2.2.2.2.length ≤ z.1) ∧ (∃ m, (ts.drop z.1).length < m ∧ full = vaL (vaV n) 4 m (z.2.2.2.1, z.2.2.2.2.2, ts.drop z.1)) ∧ ∃ V', Sub V V' ∧ Pw ValAt V' z.2.2.2.2.1 z.2.2.2.2.2 ∧ Rel W V (VlA b15 b9 b6 4 z.2.1 z.2.2.1 z.2.2.2.1 z.2.2.2.2.1 (valC zeroH) (valC zeroH)) V' w') (fun z _ => ts.length - z.1) (p + 1, ⟨none, 0, 0⟩, ⟨none, 0, 0⟩, [], [], []) ?_
        (conv => whnf)
        refine ⟨(by repeat (first | exact trivial | refine ⟨rfl, ?_⟩)), ⟨hlt, ⟨Nat.zero_le _, Nat.zero_le _⟩, ⟨_, Nat.lt_succ_self _, hfull⟩, V, Sub.refl _, Pw.nil, H0⟩, ?_⟩
        clear H0 hfull
        rintro ⟨q, ns, ps, nms, vh, vs⟩ w ⟨hq, ⟨hnl, hvl⟩, ⟨m, hm, hE⟩, V2, hV2, hP, H⟩
        dsimp only at hq hnl hvl hm hE hP H ⊢
        have hvh := hP.len
        simp only [VlA] at H
        have hpsl := H.rowLen (i := 2) rfl (fun _ => rfl) (by decide)
        by_cases hql : q < ts.length
        rotate_left
        · have hno : full = none := by rw [hE, hd0 q hq hql]; rfl
          (first | (refine H.wg ?_; clear H; intros; rename_i w H; constructor) | refine wk ?_)
          exact ⟨(q, ns, ps, nms, vh, vs), (by repeat (first | exact trivial | refine ⟨rfl, ?_⟩)), hq, fun h => absurd h hql, fun _ => hno, V2, hV2, hP, H⟩
        obtain ⟨p2, c2⟩ := (hs.up hV2).at1 (g := str) (fun _ => rfl) hql
        have hdr2 := List.drop_eq_getElem_cons hql
        obtain ⟨u, hu⟩ : ∃ u, u = ts[q] := ⟨_, rfl⟩
        rw [← hu] at c2 hdr2
        rw [List.length_drop] at hm
        obtain ⟨m, rfl⟩ : ∃ m', m = m' + 1 := ⟨m - 1, by omega⟩
        rw [hdr2] at hE
        by_cases hue : u = [125]
        · by_cases hvs : vs = []
          · have hvl0 : vs.length = 0 := by rw [hvs]; rfl
            have hyes : full = some (nms, vs, ts.drop (q + 1)) := by rw [hE, hvs, hue]; rfl
            subst hue
            (first | (refine H.wg ?_; clear H; intros; rename_i w H; constructor) | refine wk ?_)
            exact ⟨(q, ns, ps, nms, vh, vs), (by repeat (first | exact trivial | refine ⟨rfl, ?_⟩)), hq, fun _ => hyes, fun h => absurd hql h, V2, hV2, hP, H⟩
          · have hvl0 : vs.length ≠ 0 := fun h => hvs (List.eq_nil_of_length_eq_zero h)
            have hno : full = none := by
              rw [hE, vaL_four (vaV_nil n) _ (fun h => hvs h.2), hue]
              cases ts.drop (q + 1) with
              | nil => rfl
              | cons c r => exact if_neg (fun h => absurd h.1 (by decide))
            rw [hue] at c2
            by_cases h2 : q + 1 < ts.length
            · (first | (refine H.wg ?_; clear H; intros; rename_i w H; constructor) | refine wk ?_)
              refine (name_ref _ [125]).use ?_
              rintro v w' ⟨rfl, rfl⟩
              rw [show nameOk [125] = false by decide]
              rw [hno]
              (first | (refine H.wg ?_; clear H; intros; rename_i w H; constructor) | refine wk ?_)
              exact ⟨_, zeroH, _, _, hV2, H.sx, rfl, rfl⟩
            · rw [hno]
              (first | (refine H.wg ?_; clear H; intros; rename_i w H; constructor) | refine wk ?_)
              exact ⟨_, zeroH, _, _, hV2, H.sx, rfl, rfl⟩
        rw [vaL_four (vaV_nil n) _ (fun h => hue h.1)] at hE
        (first | (refine H.wg ?_; clear H; intros; rename_i w H; constructor) | refine wk ?_)
        refine condG_true (by simp [hue]) ?_
        by_cases h2 : q + 1 < ts.length
        rotate_left
        · rw [hd0 (q + 1) (by omega) h2] at hE
          rw [hE]
          (first | (refine H.wg ?_; clear H; intros; rename_i w H; constructor) | refine wk ?_)
          exact ⟨_, zeroH, _, _, hV2, H.sx, rfl, rfl⟩
        obtain ⟨p4, c4⟩ := (hs.up hV2).at1 (g := str) (fun _ => rfl) h2
        have hdr4 := List.drop_eq_getElem_cons h2
        obtain ⟨u2, hu2⟩ : ∃ u2, u2 = ts[q + 1] := ⟨_, rfl⟩
        rw [← hu2] at c4 hdr4
        rw [show q + 1 = (((q : Nat) : Int) + 1).toNat by omega] at c4
        rw [hdr4] at hE
        replace hE : full = if nameOk u = true ∧ u2 = [58] then vaK (vaV n) 4 m (nms ++ [u]) vs (vaV n (ts.drop (q + 2))) else none := hE
        (first | (refine H.wg ?_; clear H; intros; rename_i w H; constructor) | refine wk ?_)
        refine (name_ref _ u).use ?_
        rintro v w' ⟨rfl, rfl⟩
        by_cases hnm : nameOk u = true
        rotate_left
        · rw [if_neg (fun h => hnm h.1)] at hE
          rw [show nameOk u = false by simpa using hnm]
          rw [hE]
          (first | (refine H.wg ?_; clear H; intros; rename_i w H; constructor) | refine wk ?_)
          exact ⟨_, zeroH, _, _, hV2, H.sx, rfl, rfl⟩
        rw [hnm]
        by_cases h58 : u2 = [58]
        rotate_left
        · rw [if_neg (fun h => h58 h.2)] at hE
          rw [hE]
          (first | (refine H.wg ?_; clear H; intros; rename_i w H; constructor) | refine wk ?_)
          refine condG_true (by simp [h58]) ?_
          (first | (refine H.wg ?_; clear H; intros; rename_i w H; constructor) | refine wk ?_)
          exact ⟨_, zeroH, _, _, hV2, H.sx, rfl, rfl⟩
        rw [if_pos ⟨hnm, h58⟩] at hE
        rw [h58] at c4
        (first | (refine H.wg ?_; clear H; intros; rename_i w H; constructor) | refine wk ?_)
        ((first | refine draw_vc (id := 21) tabOk mixed [6] [0, 1, 2, 3, 4, 5, 6, 7, 8, 9] (by kernel_rfl) ?_); intro w hdw; replace H := Rel.ext H hdw.ext)
        (first | (refine H.wh ?_; clear H; intros; rename_i w H; constructor) | refine wk ?_)
        ((first | refine Rel.nwD H ?_ | refine Rel.nw H ?_); clear H; intro w b118 H)
        (first | (refine H.wg ?_; clear H; intros; rename_i w H; constructor) | refine wk ?_)
        refine Rel.app1_1 (f := strC) (s := ns) (l := nms) (x := u) tabOk rfl rfl rfl rfl rfl (by decide) (fun _ => rfl) (by simp [Value.oneCell']) H (by show (nms.length + 1) * 16 ≤ _; omega) (by omega) ?_
        clear H
        intro ns w H
        (first | (refine H.wg ?_; clear H; intros; rename_i w H; constructor) | refine wk ?_)
        refine (ih H.data (p := (q + 2)) (lv := lv + 1) (hs.up hV2) hne hl (by omega) (by omega) (by omega)).use ?_
        rintro q1 w ⟨V3, h3, nx, k3, hV3, K, rfl, hres⟩
        (have hKb := K.base; replace H := Rel.call H K)
        simp only [List.nil_append] at H
        have hV23 := hV2.trans hV3
        (first | (refine H.wh ?_; clear H; intros; rename_i w H; constructor) | refine wk ?_)
        ((first | refine Rel.nwD H ?_ | refine Rel.nw H ?_); clear H; intro w b17 H)
        cases hf : vaV n (ts.drop (q + 2)) with
        | none =>
          rw [hf] at hres hE
          dsimp only at hres
          subst hres
          rw [hE]
          (first | (refine H.wg ?_; clear H; intros; rename_i w H; constructor) | refine wk ?_)
          exact ⟨_, zeroH, _, _, hV23, H.sx, rfl, rfl⟩
        | some y =>
          obtain ⟨v1, r1⟩ := y
          rw [hf] at hres hE
          obtain ⟨rfl, hva, m1, rfl, hm1, hdm⟩ := hres
          dsimp only at hva hdm hE
          have hok := congrArg List.length (vaV_ok n _ _ _ hf).1
          rw [List.length_append, List.length_drop, ← hdm, List.length_drop] at hok
          have htn := List.length_pos_iff.2 (tokV_ne v1)
          by_cases hml : m1 < ts.length
          rotate_left
          · rw [← hdm, hd0 m1 hm1 hml] at hE
            rw [hE]
            (first | (refine H.wg ?_; clear H; intros; rename_i w H; constructor) | refine wk ?_)
            exact ⟨_, zeroH, _, _, hV23, H.sx, rfl, rfl⟩
          obtain ⟨p3, c3⟩ := (hs.up hV23).at1 (g := str) (fun _ => rfl) hml
          have hdr3 := List.drop_eq_getElem_cons hml
          obtain ⟨u1, hu1⟩ : ∃ u1, u1 = ts[m1] := ⟨_, rfl⟩
          rw [← hu1] at c3 hdr3
          rw [← hdm, hdr3] at hE
          replace hE : full = if u1 = [125] then some ((nms ++ [u]), vs ++ [v1], ts.drop (m1 + 1)) else if u1 = [44] then vaL (vaV n) 4 m ((nms ++ [u]), vs ++ [v1], ts.drop (m1 + 1)) else none := hE
          have hP3 := (hP.up valAt_up hV3).snoc hva
          by_cases he : u1 = [125]
          · subst he
            rw [if_pos rfl] at hE
            (first | (refine H.wh ?_; clear H; intros; rename_i w H; constructor) | refine wk ?_)
            ((first | refine Rel.nwD H ?_ | refine Rel.nw H ?_); clear H; intro w b159 H)
            (first | (refine H.wg ?_; clear H; intros; rename_i w H; constructor) | refine wk ?_)
            refine Rel.app1_3 (f := valC) (s := ps) (l := vh) (x := h3) tabOk rfl rfl rfl rfl rfl (by decide) (fun _ => rfl) (by simp [Value.oneCell']) H (by show (vh.length + 1) * 88 ≤ _; omega) (by omega) ?_
            clear H
            intro ps2 w H
            (first | (refine H.wg ?_; clear H; intros; rename_i w H; constructor) | refine wk ?_)
            exact ⟨(m1, ns, ps2, (nms ++ [u]), vh ++ [h3], vs ++ [v1]), (by repeat (first | exact trivial | refine ⟨rfl, ?_⟩)), hm1, fun _ => hE, fun h => absurd hml h, V3, hV23, hP3, H.sx⟩
          rw [if_neg he] at hE
          by_cases h44 : u1 = [44]
          · subst h44
            rw [if_pos rfl] at hE
            (first | (refine H.wh ?_; clear H; intros; rename_i w H; constructor) | refine wk ?_)
            ((first | refine Rel.nwD H ?_ | refine Rel.nw H ?_); clear H; intro w b159 H)
            (first | (refine H.wg ?_; clear H; intros; rename_i w H; constructor) | refine wk ?_)
            refine Rel.app1_3 (f := valC) (s := ps) (l := vh) (x := h3) tabOk rfl rfl rfl rfl rfl (by decide) (fun _ => rfl) (by simp [Value.oneCell']) H (by show (vh.length + 1) * 88 ≤ _; omega) (by omega) ?_
            clear H
            intro ps2 w H
            (first | (refine H.wg ?_; clear H; intros; rename_i w H; constructor) | refine wk ?_)
            exact ⟨(by repeat (first | exact trivial | refine ⟨rfl, ?_⟩)), (m1 + 1, ns, ps2, (nms ++ [u]), vh ++ [h3], vs ++ [v1]), (by repeat (first | exact trivial | refine ⟨rfl, ?_⟩)), ⟨hml, ⟨by dsimp only; first | omega | (rw [List.length_append, List.length_singleton]; omega), by dsimp only; rw [List.length_append, List.length_singleton]; omega⟩, ⟨m, by dsimp only; rw [List.length_drop]; omega, hE⟩, V3, hV23, hP3, H.sx⟩, by dsimp only; omega⟩
          · rw [if_neg h44] at hE
            rw [hE]
            (first | (refine H.wg ?_; clear H; intros; rename_i w H; constructor) | refine wk ?_)
            refine condG_true (by simp [h44]) ?_
            (first | (refine H.wg ?_; clear H; intros; rename_i w H; constructor) | refine wk ?_)
            refine condG_true (by simp [he]) ?_
            (first | (refine H.wg ?_; clear H; intros; rename_i w H; constructor) | refine wk ?_)
            exact ⟨_, zeroH, _, _, hV23, H.sx, rfl, rfl⟩
      clear H0
      rintro ⟨q, ns, ps, nms, vh, vs⟩ w ⟨hq, hyes, hno, V2, hV2, hP, H⟩
      dsimp only at hq hyes hno hP H ⊢
      simp only [VlA] at H
      (first | (refine H.wg ?_; clear H; intros; rename_i w H; constructor) | refine wk ?_)
      have hx : full = none ∨ full = some (nms, vs, ts.drop (q + 1)) ∧ q < ts.length := by
        by_cases hql : q < ts.length
        · exact .inr ⟨hyes hql, hql⟩
        · exact .inl (hno hql)
      have H2 : Rel W V [.row ns 9 1 (nms.flatMap strC), .row ps 27 5 (vh.flatMap valC)] V2 w := H.sx
      obtain ⟨V3, hV3, H3, hns⟩ := H2.freezeF (fun _ => rfl) (by decide)
      obtain ⟨V4, hV4, H4, hps⟩ := H3.freezeF (fun _ => rfl) (by decide)
      refine ⟨V4, ⟨4, 0, ⟨none, 0, 0⟩, ns, ps⟩, _, _, (hV2.trans hV3).trans hV4, H4, rfl, ?_⟩
      by_cases hql : q < ts.length
      · rw [hyes hql]
        have hP4 := (hP.up valAt_up hV3).up valAt_up hV4
        exact ⟨decide_eq_true (by omega), .mk vh rfl rfl (SlF.nil _ _) (hns.up hV4) hps hP4.len hP4.all, q + 1, rfl, by omega, rfl⟩
      · rw [hno hql]
        exact decide_eq_false (by omega)
    rw [if_neg h123]
    (first | (refine H.wg ?_; clear H; intros; rename_i w H; constructor) | refine wk ?_)
    refine condG_true (by simp [h91]) ?_
    (first | (refine H.wg ?_; clear H; intros; rename_i w H; constructor) | refine wk ?_)
    refine condG_true (by simp [h123]) ?_
    (first | (refine H.wg ?_; clear H; intros; rename_i w H; constructor) | refine wk ?_)
    refine (numberOf_ref (s := t) H.data htl).use ?_
    rintro q w ⟨z, k2, rfl, hz, hres, K⟩
    (have hKb := K.base; replace H := Rel.call H K)
    simp only [List.nil_append] at H
    (first | (refine H.wg ?_; clear H; intros; rename_i w H; constructor) | refine wk ?_)
    refine ⟨V, numH z, _, k2, Sub.refl _, H.sx, rfl, ?_⟩
    rw [hres]
    cases k2 with
    | false => rfl
    | true => exact ⟨rfl, valAt_num _ _, p + 1, rfl, hlt, rfl⟩
end Go.Proofs.YtffaffojkfalhaaGreatDoor
namespace Go.Proofs.YtffaffojkfalhaaGreatDoor
open Go Go.RowKit

theorem scP_ne : ∀ {n : Nat} {l : List UInt8} {L : BL} {lb : List UInt8}, scP n l = some (L, lb) → ∀ p ∈ L, p.2 ≠ []
  | 0, l, L, lb, h => by simp [scP] at h
  | n + 1, l, L, lb, h => by
    rw [scP] at h
    split at h
    · cases h
      simp
    · split at h
      · cases h
      · rename_i t r ht
        obtain ⟨x, hx, h⟩ := Option.map_eq_some_iff.1 h
        obtain ⟨M, mb⟩ := x
        cases h
        intro p hp
        rcases List.mem_cons.1 hp with rfl | hp
        · exact (tkE_some ht).2
        · exact scP_ne hx p hp
theorem mem_lenT {t : Tok} {ts : List Tok} (h : t ∈ ts) : t.length ≤ lenT ts := by
  obtain ⟨a, b, rfl⟩ := List.append_of_mem h
  simp only [lenT, List.map_append, List.map_cons, List.sum_append, List.sum_cons]
  omega
theorem mem_blk {p : List UInt8 × Tok} {L : BL} (h : p ∈ L) : p.1.length ≤ (flatB L).length := by
  obtain ⟨a, b, rfl⟩ := List.append_of_mem h
  rw [flatB_append, flatB_cons]
  simp only [List.length_append]
  omega
section
variable {V W : World}
set_option maxRecDepth 100000 in
set_option maxHeartbeats 4000000 in
theorem trrTo_ref (hV : Sub V W) {s : Sl} {l : List UInt8} (hs : Byt V s l) (hl : l.length ≤ 1000) : Ret Tryz.prog 13 [s.v].toArray W (ToG W V (treTo l)) := by
  have H := Rel.start hV
  have hlen := hs.len
  have e := treTo_ref (l := l) (by omega)
  refine cal_of_vc tabOk Tryz.func13 rfl (by kernel_rfl) 89 rfl (by simp) [0, 2, 3, 4, 5, 6, 7, 8, 9, 11, 12, 13, 14, 22, 43, 56, 67, 82] ?_
  (first | (refine H.wh ?_; clear H; intros; rename_i w H; constructor) | refine wk ?_)
  ((first | refine Rel.nwD H ?_ | refine Rel.nw H ?_); clear H; intro w b2 H)
  (first | (refine H.wg ?_; clear H; intros; rename_i w H; constructor) | refine wk ?_)
  refine (scan_ref H.data hs (by omega)).use ?_
  rintro q w ⟨V2, x, y, k, hV2, K, rfl, hres⟩
  (have hKb := K.base; replace H := Rel.call H K)
  simp only [List.nil_append] at H
  cases hsc : scP (l.length + 1) l with
  | none =>
    rw [hsc] at hres e
    dsimp only at hres e
    subst hres
    rw [e]
    (first | (refine H.wg ?_; clear H; intros; rename_i w H; constructor) | refine wk ?_)
    exact ⟨_, zeroH, ⟨none, 0, 0⟩, zeroV, [], hV2, H.sx, valAt_zero _, SlF.nil _ _, rfl⟩
  | some z =>
  obtain ⟨L, lb⟩ := z
  rw [hsc] at hres e
  obtain ⟨rfl, hx, hy⟩ := hres
  dsimp only at hx hy e
  obtain ⟨g1, g2, g3⟩ := scP_some hsc
  have hne := scP_ne hsc
  have hLl := (dif_len L 0 false hne).2.2
  have hg1 := congrArg List.length g1
  rw [List.length_append] at hg1
  have hfl := flatB_len L
  have hml : (L.map Prod.snd).length = L.length := by simp
  (first | (refine H.wg ?_; clear H; intros; rename_i w H; constructor) | refine wk ?_)
  refine (valueAt_ref 10 (p := 0) (lv := 1) H.data hx (fun t ht => ⟨by
    obtain ⟨p, hp, rfl⟩ := List.mem_map.1 ht
    exact hne p hp, by have := mem_lenT ht; omega⟩) (by omega) (Nat.le_refl _) (Nat.zero_le _) rfl).use ?_
  rintro q w ⟨V3, h3, nx, k3, hV3, K, rfl, hres⟩
  (have hKb := K.base; replace H := Rel.call H K)
  simp only [List.nil_append] at H
  have hV23 := hV2.trans hV3
  have hxl := hx.len
  (first | (refine H.wh ?_; clear H; intros; rename_i w H; constructor) | refine wk ?_)
  ((first | refine Rel.nwD H ?_ | refine Rel.nw H ?_); clear H; intro w b8 H)
  rw [List.drop_zero] at hres
  cases hva : vaV 10 (L.map Prod.snd) with
  | none =>
    rw [hva] at hres e
    dsimp only at hres e
    subst hres
    rw [e]
    (first | (refine H.wg ?_; clear H; intros; rename_i w H; constructor) | refine wk ?_)
    exact ⟨_, zeroH, ⟨none, 0, 0⟩, zeroV, [], hV23, H.sx, valAt_zero _, SlF.nil _ _, rfl⟩
  | some yv =>
  obtain ⟨v, r⟩ := yv
  rw [hva] at hres e
  obtain ⟨rfl, hv3, m, rfl, hm, hdm⟩ := hres
  dsimp only at hv3 hdm e
  obtain ⟨t1, t2⟩ := vaV_ok 10 _ _ _ hva
  by_cases hr : r = []
  rotate_left
  · have hm1 : m < (L.map Prod.snd).length := by
      rcases Nat.lt_or_ge m (L.map Prod.snd).length with h | h
      · exact h
      · exact absurd (by rw [← hdm]; exact List.drop_eq_nil_of_le h) hr
    rw [if_neg (fun h => hr h.1)] at e
    rw [e]
    (first | (refine H.wg ?_; clear H; intros; rename_i w H; constructor) | refine wk ?_)
    exact ⟨_, zeroH, ⟨none, 0, 0⟩, zeroV, [], hV23, H.sx, valAt_zero _, SlF.nil _ _, rfl⟩
  have hm1 : m = (L.map Prod.snd).length := by
    have := congrArg List.length hdm
    rw [hr, List.length_drop, List.length_nil] at this
    omega
  subst hr
  rw [List.append_nil] at t1
  have hVB : VB 1048576 v := vb_of t2 (by decide) (by rw [← t1]; omega)
  (first | (refine H.wg ?_; clear H; intros; rename_i w H; constructor) | refine wk ?_)
  refine (valueFault_ref H.data hv3 hVB).use ?_
  rintro q w ⟨rfl, K⟩
  (have hKb := K.base; replace H := Rel.call H K)
  simp only [List.nil_append] at H
  by_cases hvf : (vfault v).1 = 0
  rotate_left
  · rw [if_neg (fun h => hvf h.2)] at e
    rw [e]
    (first | (refine H.wg ?_; clear H; intros; rename_i w H; constructor) | refine wk ?_)
    exact ⟨_, zeroH, ⟨none, 0, 0⟩, zeroV, [], hV23, H.sx, valAt_zero _, SlF.nil _ _, rfl⟩
  rw [if_pos ⟨rfl, hvf⟩] at e
  rw [e]
  (first | (refine H.wg ?_; clear H; intros; rename_i w H; constructor) | refine wk ?_)
  refine (tokensOf_ref (SizeOf.sizeOf v + 1) H.data (h := h3) (v := v) false (Nat.lt_succ_self _) hv3 hVB t2 (by rw [← t1]; omega)).use ?_
  rintro q w ⟨V6, x6, y6, hV6, K, rfl⟩
  (have hKb := K.base; replace H := Rel.call H K)
  simp only [List.cons_append, List.nil_append] at H
  obtain ⟨U, hU⟩ : ∃ U, U = wants false (L.map Prod.snd) ++ [[10]] := ⟨_, rfl⟩
  obtain ⟨B, hB⟩ : ∃ B, B = L.map Prod.fst ++ [lb] := ⟨_, rfl⟩
  have hUl : U.length = L.length + 1 := by rw [hU, List.length_append, wants_len, hml]; rfl
  have hBl : B.length = L.length + 1 := by rw [hB]; simp
  have hBb : ∀ b ∈ B, b.length ≤ 1000 := by
    intro b hb
    rw [hB] at hb
    rcases List.mem_append.1 hb with hb | hb
    · obtain ⟨p, hp, rfl⟩ := List.mem_map.1 hb
      have := mem_blk hp
      omega
    · rw [List.mem_singleton.1 hb]
      omega
  have hot : othB L lb = difP B U := by rw [othB_difP, hB, hU]
  rw [hot]
  rw [← hB] at hy
  have hyl := hy.len
  (first | (refine H.wh ?_; clear H; intros; rename_i w H; constructor) | refine wk ?_)
  ((first | refine Rel.nwD H ?_ | refine Rel.nw H ?_); clear H; intro w b51 H)
  (first | (refine H.wg ?_; clear H; intros; rename_i w H; constructor) | refine wk ?_)
  refine Rel.appSB (i := 1) (s := y6) (xs := wants false (tokV v)) [[10]] H rfl rfl (by rw [wants_len, ← t1]; simp only [List.length_cons, List.length_nil]; omega) ?_
  clear H
  intro y7 w H
  simp only [List.set_cons_zero, List.set_cons_succ] at H
  rw [← t1, ← hU] at H
  have H2 : Rel W V [.row y7 9 1 (U.flatMap strC), .blk b8 (valC h3) 27, .blk b2 (valC zeroH) 27] V6 w := H.sx
  obtain ⟨V7, hV7, H3, hu7⟩ := H2.freezeF (fun _ => rfl) (by decide)
  clear H H2
  have hu7l := hu7.len
  have hV67 := hV6.trans hV7
  have hV27 := hV23.trans hV67
  replace hy := hy.up (hV3.trans hV67)
  (first | (refine H.wg ?_; clear H; intros; rename_i w H; constructor) | refine wk ?_)
  refine loop_inv (S := Nat × Sl) tabOk [0, 2, 3, 4, 5, 6, 7, 8, 9, 11, 22, 43, 82] (fun z => [(12, z.2.v), (13, iv ((difP (B.take z.1) (U.take z.1)).length : Nat)), (14, iv (z.1 : Int))]) (fun z w' => z.1 ≤ B.length ∧ ((difP (B.take z.1) (U.take z.1)).flatMap putB).length ≤ z.1 * 3000 ∧ ∃ V', Sub V7 V' ∧ Byt V' z.2 ((difP (B.take z.1) (U.take z.1)).flatMap putB) ∧ Rel W V [.blk b8 (valC h3) 27, .blk b2 (valC zeroH) 27] V' w') (fun z _ => B.length - z.1) (0, ⟨none, 0, 0⟩) ?_
  (conv => whnf)
  refine ⟨(by repeat (first | exact trivial | refine ⟨rfl, ?_⟩)), ⟨Nat.zero_le _, Nat.zero_le _, V7, Sub.refl _, SlF.nil _ _, H3⟩, ?_⟩
  clear H3
  rintro ⟨k, r⟩ w ⟨hk, hol, V8, hV8, hr8, H⟩
  dsimp only at hk hol hr8 H ⊢
  have hdl := difP_le (B.take k) (U.take k)
  rw [List.length_take] at hdl
  obtain ⟨D, hD⟩ : ∃ D, D = difP (B.take k) (U.take k) := ⟨_, rfl⟩
  rw [← hD] at hol hr8 hdl ⊢
  by_cases hlt : k < B.length
  rotate_left
  · rw [List.take_of_length_le (by omega), List.take_of_length_le (by omega)] at hD
    rw [← hD]
    have hV28 := hV27.trans hV8
    have hv8 := hv3.up (hV67.trans hV8)
    by_cases h0 : D = []
    · have hl0 : D.length = 0 := by rw [h0]; rfl
      rw [show treRes D = [] by rw [h0]; rfl]
      (first | (refine H.wg ?_; clear H; intros; rename_i w H; constructor) | refine wk ?_)
      exact ⟨V8, h3, ⟨none, 0, 0⟩, v, [], hV28, H.sx, hv8, SlF.nil _ _, rfl, rfl⟩
    · have hl0 : D.length ≠ 0 := fun h => h0 (List.eq_nil_of_length_eq_zero h)
      have er : treRes D = putN (D.length : Int) ++ D.flatMap putB := by unfold treRes; rw [if_neg h0]; rfl
      have hpn := putN_len (n := (D.length : Int)) (by omega) (by omega)
      rw [er]
      (first | (refine H.wg ?_; clear H; intros; rename_i w H; constructor) | refine wk ?_)
      ((first | refine draw_vc (id := 14) tabOk mixed [] [0, 1, 2, 3, 4, 5, 6, 7, 8] (by kernel_rfl) ?_ | refine draw_vc (id := 19) tabOk mixed [2, 4] [0, 1, 3, 2, 4, 5, 6, 7] (by kernel_rfl) ?_); intro w hdw; replace H := Rel.ext H hdw.ext)
      (first | (refine H.wg ?_; clear H; intros; rename_i w H; constructor) | refine wk ?_)
      refine (put_ref (n := (D.length : Int)) H.data ⟨by omega, by omega⟩).use ?_
      rintro v w ⟨rq, rfl, K⟩
      (have hKb := K.base; replace H := Rel.call H K)
      simp only [List.cons_append, List.nil_append, List.append_nil] at H
      obtain ⟨Va, hVa, H, ha⟩ := Rel.freezeF H (fun _ => rfl) (by decide)
      (first | (refine H.wg ?_; clear H; intros; rename_i w H; constructor) | refine wk ?_)
      refine (join_ref H.data ha (hr8.up hVa) (by omega)).use ?_
      rintro v w ⟨rj, rfl, K⟩
      (have hKb := K.base; replace H := Rel.call H K)
      simp only [List.cons_append, List.nil_append, List.append_nil] at H
      obtain ⟨Vb, hVb, H, hb⟩ := Rel.freezeF H (fun _ => rfl) (by decide)
      (first | (refine H.wg ?_; clear H; intros; rename_i w H; constructor) | refine wk ?_)
      exact ⟨Vb, h3, rj, _, _, (hV28.trans hVa).trans hVb, H.sx, (hv8.up hVa).up hVb, hb, rfl, rfl⟩
  have hltu : k < U.length := by omega
  obtain ⟨p0, c0⟩ := (hy.up hV8).at1 (g := str) (fun _ => rfl) hlt
  obtain ⟨p1, c1⟩ := (hu7.up hV8).at1 (g := str) (fun _ => rfl) hltu
  have hst := difP_step hlt hltu
  rw [← hD] at hst
  have hbb := hBb _ (List.getElem_mem hlt)
  obtain ⟨bk, hbk⟩ : ∃ bk, bk = B[k] := ⟨_, rfl⟩
  obtain ⟨uk, huk⟩ : ∃ uk, uk = U[k] := ⟨_, rfl⟩
  rw [← hbk] at c0 hst hbb
  rw [← huk] at c1 hst
  (first | (refine H.wg ?_; clear H; intros; rename_i w H; constructor) | refine wk ?_)
  ((first | refine draw_vc (id := 14) tabOk mixed [] [0, 1, 2, 3, 4, 5, 6, 7, 8] (by kernel_rfl) ?_ | refine draw_vc (id := 19) tabOk mixed [2, 4] [0, 1, 3, 2, 4, 5, 6, 7] (by kernel_rfl) ?_); intro w hdw; replace H := Rel.ext H hdw.ext)
  (first | (refine H.wg ?_; clear H; intros; rename_i w H; constructor) | refine wk ?_)
  by_cases he : bk = uk
  · rw [if_pos he, List.append_nil] at hst
    refine condG_false (by simp [he]) ?_
    (first | (refine H.wg ?_; clear H; intros; rename_i w H; constructor) | refine wk ?_)
    refine ⟨(by repeat (first | exact trivial | refine ⟨rfl, ?_⟩)), (k + 1, r), ⟨rfl, by rw [hst]; rfl, rfl, trivial⟩, ⟨by dsimp only; omega, by dsimp only; rw [hst]; omega, V8, hV8, by dsimp only; rw [hst]; exact hr8, H⟩, by dsimp only; omega⟩
  rw [if_neg he] at hst
  have hpn := putN_len (n := (k : Int)) (by omega) (by omega)
  have hpc := putC_len (b := bk) (by omega)
  refine condG_true (by simp [he]) ?_
  (first | (refine H.wg ?_; clear H; intros; rename_i w H; constructor) | refine wk ?_)
  ((first | refine draw_vcTX (id := 14) tabOk mixed (Kv V8) Kv.trans [] [] [0, 1, 2, 3, 4, 5, 6, 7, 8] [] (by kernel_rfl) ?_ | refine draw_vcTX (id := 15) tabOk mixed (Kv V8) Kv.trans [2] [6] [0, 1, 3, 4, 5, 6, 2, 7, 8, 9, 10, 11] [(2, []), (7, []), (8, [2, 7]), (9, [2, 7, 8]), (10, [2, 7, 8, 9])] (by kernel_rfl) ?_ | refine draw_vcTX (id := 19) tabOk mixed (Kv V8) Kv.trans [2, 4] [0] [0, 1, 3, 2, 4, 5, 6, 7] [(2, []), (4, [2]), (5, [2, 4])] (by kernel_rfl) ?_); intro w hdw; replace H := Rel.ext H hdw.ext)
  repeat' ((first | (refine H.wh ?_; clear H; intros; rename_i w H; constructor) | refine wk ?_); first | (first | refine Kv.go H ?_ | refine Kv.go2 H (by assumption) ?_ | (refine And.intro (fun w1 hkp => ?_) ?_; focus ((first | have H := Kv.in H hkp | have H := Kv.in2 H (by assumption) hkp); ((repeat ((conv => whnf); first | refine an ?_ | refine H.ce ?_ | refine H.db ?_ | refine ea ?_ | refine ol ?_ | fail | refine cT ?_ | refine cF ?_ | refine cN ?_ | refine cM ?_ | refine H.lw ?_ | refine H.ll ?_)); (conv => whnf)); all_goals (first | exact ⟨rfl, rfl⟩ | exact rfl))) | refine And.intro ?_ ?_ | ((first | refine Rel.nwD H ?_ | refine Rel.nw H ?_); clear H; intro w _ H)) | (refine (put_ref (n := (k : Int)) H.data ⟨by omega, by omega⟩).use ?_; rintro v w ⟨rq, rfl, K⟩; (have hKb := K.base; replace H := Rel.call H K); simp only [List.cons_append, List.nil_append, List.append_nil] at H) | (refine Rel.convSB Tryz.underlying9 Tryz.underlying22 Tryz.underlying5 H bk ?_; clear H; intro Vc sc w hec hVc hsc H) | (refine (putChunk_ref (b := bk) H.data hsc (by omega)).use ?_; rintro v w ⟨rc, rfl, K⟩; (have hKb := K.base; replace H := Rel.call H K); simp only [List.cons_append, List.nil_append, List.append_nil] at H))
  all_goals
    (first | (refine H.wh ?_; clear H; intros; rename_i w H; constructor) | refine wk ?_)
    obtain ⟨Va, hVa, H, ha⟩ := Rel.freezeF H (fun _ => rfl) (by decide)
    obtain ⟨Vb, hVb, H, hb⟩ := Rel.freezeF H (fun _ => rfl) (by decide)
    refine (join_ref H.data hb (ha.up hVb) (by omega)).use ?_
    rintro v w ⟨rj, rfl, K⟩
    (have hKb := K.base; replace H := Rel.call H K)
    simp only [List.cons_append, List.nil_append, List.append_nil] at H
    obtain ⟨Vd, hVd, H, hd⟩ := Rel.freezeF H (fun _ => rfl) (by decide)
    have hV8d := ((hVc.trans hVa).trans hVb).trans hVd
    (first | (refine H.wh ?_; clear H; intros; rename_i w H; constructor) | refine wk ?_)
    refine (join_ref H.data (hr8.up hV8d) hd (by rw [List.length_append]; omega)).use ?_
    rintro v w ⟨rk, rfl, K⟩
    (have hKb := K.base; replace H := Rel.call H K)
    simp only [List.cons_append, List.nil_append, List.append_nil] at H
    obtain ⟨Ve, hVe, H, he⟩ := Rel.freezeF H (fun _ => rfl) (by decide)
    (first | (refine H.wg ?_; clear H; intros; rename_i w H; constructor) | refine wk ?_)
    have hfm : (D ++ [(k, bk)]).flatMap putB = D.flatMap putB ++ (putN (k : Int) ++ putC bk) := by simp [putB]
    refine ⟨(by repeat (first | exact trivial | refine ⟨rfl, ?_⟩)), (k + 1, rk), ⟨rfl, by rw [hst, List.length_append]; rfl, rfl, trivial⟩, ⟨by dsimp only; omega, by dsimp only; rw [hst, hfm, List.length_append, List.length_append]; omega, Ve, hV8.trans (hV8d.trans hVe), by dsimp only; rw [hst, hfm]; exact he, H.sx⟩, by dsimp only; omega⟩
end
end Go.Proofs.YtffaffojkfalhaaGreatDoor
