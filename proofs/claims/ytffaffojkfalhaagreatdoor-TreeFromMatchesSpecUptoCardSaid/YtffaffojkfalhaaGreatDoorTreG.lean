/-
  Files of trees: the writer's values.
-/
import Derived.Test.YtffaffojkfalhaaGreatDoorTreF
import Derived.Test.YtffaffojkfalhaaGreatDoorTreE
import Derived.Test.YtffaffojkfalhaaGreatDoorValE
namespace Go.Proofs.YtffaffojkfalhaaGreatDoor
open Go Go.RowKit

/-! ### how much is written -/
theorem tokR_cnt (k : Int) (s : List (List UInt8)) : ∀ (ps : List Val) (i : Nat) {d n m : Nat}, (∀ p ∈ ps, ∀ {d a b : Nat}, chk d p a = .ok b → (tokV p).length + 3 + 5 * a ≤ 5 * b) → chkL d ps n = .ok m → (tokR k s i ps).length + 5 * n ≤ 5 * m
  | [], i, d, n, m, _, h => by
    have : n = m := by simpa [chkL_nil] using h
    simp [tokR, this]
  | p :: ps, i, d, n, m, hp, h => by
    obtain ⟨x, h1, h2⟩ := chkL_cons_ok h
    have a1 := hp p (by simp) h1
    have a2 := tokR_cnt k s ps (i + 1) (fun q hq => hp q (by simp [hq])) h2
    have a3 : (tokE k s i p).length ≤ 3 + (tokV p).length := by
      unfold tokE
      simp only [List.length_append]
      have : ((if i = 0 then [] else [[44]] : List Tok)).length ≤ 1 := by split <;> simp
      have : ((if k = 4 then [s.getD i [], [58]] else [] : List Tok)).length ≤ 2 := by split <;> simp
      omega
    rw [tokR_cons, List.length_append]
    omega
theorem tok_cnt {v : Val} (hv : WfV v) : ∀ {d a b : Nat}, chk d v a = .ok b → (tokV v).length + 3 + 5 * a ≤ 5 * b := by
  induction hv with
  | num h =>
    intro d a b hc
    have := chk_le hc
    rw [tokV_num, List.length_singleton]
    omega
  | byt x =>
    intro d a b hc
    have := chk_le hc
    rw [tokV_byt, List.length_singleton]
    omega
  | @lst ps h ih =>
    intro d a b hc
    have h1 := (chk_ok hc).2.2.2.2.2.2.2
    have := tokR_cnt 3 [] ps 0 (fun p hp => ih p hp) h1
    rw [tokV_lst, List.length_cons, List.length_append, List.length_singleton]
    change (tokL 3 [] ps).length + _ ≤ _ at this
    omega
  | @rcd s ps hs hl h ih =>
    intro d a b hc
    have h1 := (chk_ok hc).2.2.2.2.2.2.2
    have := tokR_cnt 4 s ps 0 (fun p hp => ih p hp) h1
    rw [tokV_rcd, List.length_cons, List.length_append, List.length_singleton]
    change (tokL 4 s ps).length + _ ≤ _ at this
    omega
theorem mem_zipIdx {α : Type} {l : List α} {p : α × Nat} (h : p ∈ l.zipIdx) : l[p.2]? = some p.1 := by
  obtain ⟨i, hi⟩ := List.mem_iff_getElem?.1 h
  rw [List.getElem?_zipIdx] at hi
  obtain ⟨x, hx, rfl⟩ := Option.map_eq_some_iff.1 hi
  simpa using hx
theorem tokL_big {k : Int} {s : List (List UInt8)} {ps : List Val} (hs : ∀ x ∈ s, x.length ≤ 5000000) (hp : ∀ p ∈ ps, ∀ t ∈ tokV p, t.length ≤ 5000000) : ∀ t ∈ tokL k s ps, t.length ≤ 5000000 := by
  intro t ht
  unfold tokL tokE at ht
  obtain ⟨p, hpz, ht⟩ := List.mem_flatMap.1 ht
  have h2 := mem_zipIdx hpz
  rcases List.mem_append.1 ht with h | h
  · split at h
    · simp at h
    · simp only [List.mem_singleton] at h
      subst h; simp
  · rcases List.mem_append.1 h with h | h
    · split at h
      · rcases List.mem_cons.1 h with rfl | h
        · rw [List.getD]
          cases hg : s[p.2]? with
          | none => simp
          | some x => exact hs x (List.mem_of_getElem? hg)
        · simp only [List.mem_singleton] at h
          subst h; simp
      · simp at h
    · exact hp _ (List.mem_of_getElem? h2) t h
theorem tok_big {v : Val} (hv : WfV v) : VB 1048576 v → ∀ t ∈ tokV v, t.length ≤ 5000000 := by
  induction hv with
  | num h =>
    intro _ t ht
    rw [tokV_num, List.mem_singleton] at ht
    have := Lib.itoa_length_le _ h.1 h.2
    rw [ht]; omega
  | byt x =>
    intro hB t ht
    rw [tokV_byt, List.mem_singleton] at ht
    have h1 := hB.bytes
    have h2 := quoL_len x
    simp only [Val.bytes] at h1
    rw [ht, quoT, List.length_cons, List.length_append, List.length_singleton]
    omega
  | @lst ps h ih =>
    intro hB t ht
    rw [tokV_lst] at ht
    rcases List.mem_cons.1 ht with rfl | ht
    · simp
    · rcases List.mem_append.1 ht with ht | ht
      · exact tokL_big (by simp) (fun p hp => ih p hp (hB.part p hp)) t ht
      · simp only [List.mem_singleton] at ht
        subst ht; simp
  | @rcd s ps hs hl h ih =>
    intro hB t ht
    rw [tokV_rcd] at ht
    rcases List.mem_cons.1 ht with rfl | ht
    · simp
    · rcases List.mem_append.1 ht with ht | ht
      · exact tokL_big (fun x hx => by have := nameOk_len (hs x hx); omega) (fun p hp => ih p hp (hB.part p hp)) t ht
      · simp only [List.mem_singleton] at ht
        subst ht; simp
theorem lenT_big {ts : List Tok} (h : ∀ t ∈ ts, t.length ≤ 5000000) : lenT ts ≤ 5000000 * ts.length := by
  induction ts with
  | nil => exact Nat.zero_le _
  | cons t ts ih =>
    have h1 := h t (by simp)
    have h2 := ih fun x hx => h x (by simp [hx])
    simp only [lenT, List.map_cons, List.sum_cons, List.length_cons] at h2 ⊢
    omega
def Room (s : TWS) (ts : List Tok) : Prop := s.out.length + lenT ts + 100000000 * ts.length ≤ 450000000000 ∧ s.cnt + ts.length ≤ 100000
theorem room_of {v : Val} (hv : WfV v) (hB : VB 1048576 v) {b : Nat} (hc : chk 0 v 0 = .ok b) : Room ⟨[], 0, []⟩ (tokV v ++ [[]]) := by
  have h1 := tok_cnt hv hc
  have h2 := chk_ub hc
  have h3 := lenT_big (tok_big hv hB)
  unfold Room
  rw [lenT_append, List.length_append]
  simp only [lenT, List.length_nil, List.length_singleton, List.map_cons, List.map_nil, List.sum_cons, List.sum_nil] at h3 ⊢
  have : (tokV v).length ≤ 3000 := by omega
  have := Nat.mul_le_mul_left 5000000 this
  omega
section
variable {Z : List Blk2}
theorem tkW_le (hb : ∀ x ∈ Z, x.2.length ≤ 100000000) (s : TWS) (t : Tok) : (tkW Z s t).out.length ≤ s.out.length + t.length + 100000000 := by
  obtain ⟨bl, hbl⟩ : ∃ bl, bl = match lkB Z s.cnt with
      | some b => b
      | none => if t = [] then [10] else wantB (af s.last) := ⟨_, rfl⟩
  have : bl.length ≤ 100000000 := by
    rw [hbl]
    cases hl : lkB Z s.cnt with
    | none =>
      dsimp only
      split
      · simp
      · unfold wantB; split <;> simp
    | some b =>
      obtain ⟨x, hx, rfl⟩ := Option.map_eq_some_iff.1 hl
      exact hb x (List.mem_of_find?_eq_some hx)
  have e : (tkW Z s t).out = s.out ++ bl ++ t := by rw [hbl]; rfl
  rw [e, List.length_append, List.length_append]
  omega
theorem Room.tail (hb : ∀ x ∈ Z, x.2.length ≤ 100000000) {s : TWS} {t : Tok} {r : List Tok} (h : Room s (t :: r)) : Room (tkW Z s t) r := by
  have h1 := tkW_le hb s t
  obtain ⟨h2, h3⟩ := h
  simp only [lenT, List.map_cons, List.sum_cons, List.length_cons] at h2 h3
  exact ⟨by simp only [lenT]; omega, by show s.cnt + 1 + r.length ≤ _; omega⟩
theorem Room.head {s : TWS} {t : Tok} {r : List Tok} (h : Room s (t :: r)) : s.out.length + t.length ≤ 500000000000 ∧ s.cnt ≤ 1000000 := by
  obtain ⟨h2, h3⟩ := h
  simp only [lenT, List.map_cons, List.sum_cons, List.length_cons] at h2 h3
  exact ⟨by omega, by omega⟩
theorem Room.left {s : TWS} {a b : List Tok} (h : Room s (a ++ b)) : Room s a := by
  obtain ⟨h2, h3⟩ := h
  rw [lenT_append, List.length_append] at h2
  rw [List.length_append] at h3
  exact ⟨by omega, by omega⟩
theorem Room.right (hb : ∀ x ∈ Z, x.2.length ≤ 100000000) : ∀ {a b : List Tok} {s : TWS}, Room s (a ++ b) → Room (a.foldl (tkW Z) s) b
  | [], _, _, h => h
  | t :: a, b, s, h => Room.right hb (a := a) (Room.tail hb h)
theorem WfV.part {v : Val} (h : WfV v) : ∀ p ∈ v.parts, WfV p := by
  cases h with
  | num _ => simp [Val.parts]
  | byt _ => simp [Val.parts]
  | lst h => exact h
  | rcd _ _ h => exact h
theorem out_ne (t : Tok) (h : t ≠ []) (s : TWS) : (tkW Z s t).out ≠ [] := by
  show (s.out ++ _ ++ t) ≠ []
  simp [h]
theorem part_split {v : Val} {k : Nat} (hk : k < v.parts.length) : ∃ R, tokL v.kind v.names v.parts = tokL v.kind v.names (v.parts.take k) ++ (tokE v.kind v.names k v.parts[k] ++ R) := by
  refine ⟨tokR v.kind v.names (k + 1) (v.parts.drop (k + 1)), ?_⟩
  have e : v.parts = v.parts.take k ++ v.parts[k] :: v.parts.drop (k + 1) := by
    rw [List.getElem_cons_drop, List.take_append_drop]
  rw [← tokR_cons]
  conv => lhs; rw [e]
  unfold tokL tokR
  rw [List.zipIdx_append, List.flatMap_append, List.length_take, show min k v.parts.length = k by omega, Nat.zero_add]
end
section
variable {wb mb clk : Nat} {es : Array MapEntry}
set_option maxRecDepth 100000 in
set_option maxHeartbeats 1000000 in
theorem value_w : ∀ (N : Nat) {w0 V0 V w : World} {own : List Res} {r : Sl} {hs : List BkH} {Z : List Blk2} {s : TWS} {h : VH} {v : Val} {d a b : Nat}, SizeOf.sizeOf v < N → NumT V → Rel w0 V0 (WrO wb mb r es clk s ++ own) V w → MapB es hs → Pw BkR V hs Z → (∀ x ∈ Z, x.2.length ≤ 100000000) → ValAt V h v → VB 1048576 v → chk d v a = .ok b → WfV v → Room s (tokV v) →
    Ret Tryz.prog 35 [.pointer (some ⟨wb, 0, none⟩), valV h].toArray w fun q w' => q = .tuple #[] ∧ ∃ (V' : World) (r' : Sl), Sub V V' ∧ Rel w0 V0 (WrO wb mb r' es clk ((tokV v).foldl (tkW Z) s) ++ own) V' w' := by
  intro N
  induction N with
  | zero => intro w0 V0 V w own r hs Z s h v d a b hz; omega
  | succ N ih =>
    intro w0 V0 V w own r hs Z s h v d a b hz hE H hm hp hb hv hB hok hw hR
    have l3 := hv.plen
    have hpl := hB.parts
    have hns := hv.names
    have hn64 := hB.num
    have hbl := hB.bytes
    obtain ⟨_, _, hr, hf, h600, hna, _, hpo⟩ := chk_ok hok
    have he := tokV_eq v
    have e1 := hv.kind
    have e2 := hv.num
    obtain ⟨hk, hn, bs, ss, pl⟩ := h
    have l2 := hns.len
    dsimp only at e1 e2 l2 l3 hns
    subst e1 e2
    have hbs := hv.bytes
    change Ret Tryz.prog 35 [.pointer (some ⟨wb, 0, none⟩), .agg [iv v.kind, iv v.num, bs.v, ss.v, pl.v].toArray].toArray w _
    refine cal_of_vc tabOk Tryz.func35 rfl (by kernel_rfl) 61 rfl (by simp) [0, 1, 3, 4, 5, 6, 7, 8, 10, 11, 18, 28, 33, 34, 35, 36, 41, 44] ?_
    (first | (refine H.wh ?_; clear H; intros; rename_i w H; constructor) | refine wk ?_)
    ((first | refine Rel.nwD H ?_ | refine Rel.nw H ?_); clear H; intro w b1 H)
    obtain ⟨V1, hV1, H, hb1⟩ := H.freezeBlk
    have c0 : V1.cell? ⟨b1, 0, none⟩ = some (iv v.kind) := hb1.cel rfl
    have c1 : V1.cell? ⟨b1, 1, none⟩ = some (iv v.num) := hb1.cel rfl
    have c2 : V1.cell? ⟨b1, 2, none⟩ = some bs.v := hb1.cel rfl
    have c3 : V1.cell? ⟨b1, 3, none⟩ = some ss.v := hb1.cel rfl
    have c4 : V1.cell? ⟨b1, 4, none⟩ = some pl.v := hb1.cel rfl
    replace hp := hp.up BkR.up hV1
    replace hE := hE.up hV1
    replace hv := hv.up hV1
    replace hns := hns.up hV1
    replace hbs := hbs.up hV1
    by_cases k1 : v.kind = 1
    · rw [if_pos k1] at he
      rw [he] at hR ⊢
      (first | (refine H.wg ?_; clear H; intros; rename_i w H; constructor) | refine wk ?_)
      refine (itoa_tree H.data hE hn64).use ?_
      rintro q w ⟨rfl, K⟩
      (have hKb := K.base; replace H := Rel.call H K)
      simp only [List.nil_append] at H
      (first | (refine H.wg ?_; clear H; intros; rename_i w H; constructor) | refine wk ?_)
      refine (token_tree H hm hp hb hR.head.1 hR.head.2 (.inl (by obtain ⟨c, r, hc, _⟩ := itoa_ne v.num; rw [hc]; simp))).use ?_
      clear H
      rintro q w ⟨rfl, r, H⟩
      (first | (refine H.wg ?_; clear H; intros; rename_i w H; constructor) | refine wk ?_)
      exact ⟨V1, r, hV1, H⟩
    rw [if_neg k1] at he
    by_cases k2 : v.kind = 2
    · rw [if_pos k2] at he
      rw [he] at hR ⊢
      (first | (refine H.wg ?_; clear H; intros; rename_i w H; constructor) | refine wk ?_)
      refine (quoted_tree H.data hbs (by omega)).use ?_
      rintro q w ⟨rfl, K⟩
      (have hKb := K.base; replace H := Rel.call H K)
      simp only [List.nil_append] at H
      (first | (refine H.wg ?_; clear H; intros; rename_i w H; constructor) | refine wk ?_)
      refine (token_tree H hm hp hb hR.head.1 hR.head.2 (.inl (by simp [quoT]))).use ?_
      clear H
      rintro q w ⟨rfl, r, H⟩
      (first | (refine H.wg ?_; clear H; intros; rename_i w H; constructor) | refine wk ?_)
      exact ⟨V1, r, hV1, H⟩
    rw [if_neg k2] at he
    rw [he] at hR ⊢
    by_cases k4 : v.kind = 4
    · have eo : opT v.kind = [123] := by rw [opT, if_pos k4]
      have ee : enT v.kind = [125] := by rw [enT, if_pos k4]
      rw [eo, ee] at hR ⊢
      have hnl : v.names.length = v.parts.length := by
        unfold formBad at hf
        omega
      (first | (refine H.wg ?_; clear H; intros; rename_i w H; constructor) | refine wk ?_)
      refine (token_tree H hm hp hb hR.head.1 hR.head.2 (.inl (by simp))).use ?_
      clear H
      rintro q w ⟨rfl, r, H⟩
      (first | (refine H.wg ?_; clear H; intros; rename_i w H; constructor) | refine wk ?_)
      refine loop_inv (S := Nat) tabOk [0, 1, 3, 4, 5, 6, 10, 11, 18, 28, 33, 34] (fun k => [(35, iv (k : Int))]) (fun k w' => k ≤ v.parts.length ∧ ∃ (V' : World) (r' : Sl), Sub V1 V' ∧ Rel w0 V0 (WrO wb mb r' es clk (([123] :: tokL v.kind v.names (v.parts.take k)).foldl (tkW Z) s) ++ own) V' w') (fun k _ => v.parts.length - k) 0 ?_
      (conv => whnf)
      refine ⟨(by repeat (first | exact trivial | refine ⟨rfl, ?_⟩)), ⟨Nat.zero_le _, V1, r, Sub.refl _, by rw [List.take_zero, tokL_nil]; exact H⟩, ?_⟩
      clear H
      rintro k w ⟨hk, V2, r, hV2, H⟩
      by_cases hlt : k < v.parts.length
      rotate_left
      · rw [List.take_of_length_le (by omega)] at H
        have hRe := Room.right hb (a := [123] :: tokL v.kind v.names v.parts) (b := [[125]]) hR
        (first | (refine H.wg ?_; clear H; intros; rename_i w H; constructor) | refine wk ?_)
        refine (token_tree H hm (hp.up BkR.up hV2) hb hRe.head.1 hRe.head.2 (.inl (by simp))).use ?_
        clear H
        rintro q w ⟨rfl, r, H⟩
        (first | (refine H.wg ?_; clear H; intros; rename_i w H; constructor) | refine wk ?_)
        exact ⟨V2, r, hV1.trans hV2, by rw [← List.cons_append, List.foldl_append]; exact H⟩
      obtain ⟨R, hsp⟩ := part_split hlt
      obtain ⟨hq, x, hx, q0, q1, q2, q3, q4⟩ := (hv.up hV2).part5 hlt
      have hmem := List.getElem_mem hlt
      obtain ⟨a', m', hsub⟩ := chkL_all hpo _ hmem
      obtain ⟨p, hpe⟩ : ∃ p, p = v.parts[k] := ⟨_, rfl⟩
      have hsl := Val.part_lt hmem
      have hpB := hB.part _ hmem
      have hpw := hw.part _ hmem
      have hns2 := hns.up hV2
      rw [← hpe] at hsp hx hsub hsl hpB hpw
      obtain ⟨sk, hsk⟩ : ∃ sk, sk = ([123] :: tokL v.kind v.names (v.parts.take k)).foldl (tkW Z) s := ⟨_, rfl⟩
      rw [← hsk] at H
      have hRk : Room sk (tokE v.kind v.names k p ++ (R ++ [[125]])) := by
        rw [hsk]
        refine Room.right hb ?_
        rw [hsp] at hR
        simpa only [List.cons_append, List.append_assoc] using hR
      have hnext : ([123] :: tokL v.kind v.names (v.parts.take (k + 1))).foldl (tkW Z) s = (tokE v.kind v.names k p).foldl (tkW Z) sk := by
        rw [List.take_succ_eq_append_getElem hlt, tokL_snoc, List.length_take, show min k v.parts.length = k by omega, ← List.cons_append, List.foldl_append, ← hsk, hpe]
      unfold tokE at hRk hnext
      (first | (refine H.wh ?_; clear H; intros; rename_i w H; constructor) | refine wk ?_)
      ((first | refine Rel.nwD H ?_ | refine Rel.nw H ?_); clear H; intro w b5 H)
      (first | (refine H.wg ?_; clear H; intros; rename_i w H; constructor) | refine wk ?_)
      obtain ⟨V3, hV3, H, hb5⟩ := H.freezeBlk
      have d0 : V3.cell? ⟨b5, 0, none⟩ = some (iv x.k) := hb5.cel rfl
      have d1 : V3.cell? ⟨b5, 1, none⟩ = some (iv x.n) := hb5.cel rfl
      have d2 : V3.cell? ⟨b5, 2, none⟩ = some x.bs.v := hb5.cel rfl
      have d3 : V3.cell? ⟨b5, 3, none⟩ = some x.ss.v := hb5.cel rfl
      have d4 : V3.cell? ⟨b5, 4, none⟩ = some x.pl.v := hb5.cel rfl
      have hV13 := hV2.trans hV3
      have hp3 := hp.up BkR.up hV13
      have hE3 := hE.up hV13
      replace hx := hx.up hV3
      replace c3 := hV13.cell c3
      have hns3 := hns2.up hV3
      by_cases h0 : k = 0
      rotate_left
      · rw [if_neg h0] at hRk hnext
        (first | (refine H.wg ?_; clear H; intros; rename_i w H; constructor) | refine wk ?_)
        refine (token_tree H hm hp3 hb hRk.head.1 hRk.head.2 (.inl (by simp))).use ?_
        clear H
        rintro q w ⟨rfl, r, H⟩
        replace hRk := hRk.tail hb
        rw [if_pos k4] at hRk hnext
        have hkn : k < v.names.length := by omega
        have hgd : v.names.getD k [] = v.names[k] := by simp [List.getD, hkn]
        rw [hgd] at hRk hnext
        obtain ⟨hp', hq'⟩ := hns3.get1 (g := str) (fun _ => rfl) hkn
        have hnl := nameOk_head (hna _ (List.getElem_mem hkn))
        (first | (refine H.wg ?_; clear H; intros; rename_i w H; constructor) | refine wk ?_)
        refine (token_tree H hm hp3 hb hRk.head.1 hRk.head.2 (.inl (by obtain ⟨c, y, hc, _⟩ := hnl; rw [hc]; simp))).use ?_
        clear H
        rintro q w ⟨rfl, r, H⟩
        replace hRk := hRk.tail hb
        (first | (refine H.wg ?_; clear H; intros; rename_i w H; constructor) | refine wk ?_)
        refine (token_tree H hm hp3 hb hRk.head.1 hRk.head.2 (.inl (by simp))).use ?_
        clear H
        rintro q w ⟨rfl, r, H⟩
        replace hRk := hRk.tail hb
        (first | (refine H.wg ?_; clear H; intros; rename_i w H; constructor) | refine wk ?_)
        refine (ih (by omega) hE3 H hm hp3 hb hx hpB hsub hpw hRk.left).use ?_
        clear H
        rintro q w ⟨rfl, V4, r, hV4, H⟩
        (first | (refine H.wg ?_; clear H; intros; rename_i w H; constructor) | refine wk ?_)
        exact ⟨(by repeat (first | exact trivial | refine ⟨rfl, ?_⟩)), k + 1, (by repeat (first | exact trivial | refine ⟨rfl, ?_⟩)), ⟨by omega, V4, r, hV13.trans hV4, by rw [hnext]; exact H⟩, by omega⟩
      · rw [if_pos h0] at hRk hnext
        (first | (refine H.wg ?_; clear H; intros; rename_i w H; constructor) | refine wk ?_)
        rw [if_pos k4] at hRk hnext
        have hkn : k < v.names.length := by omega
        have hgd : v.names.getD k [] = v.names[k] := by simp [List.getD, hkn]
        rw [hgd] at hRk hnext
        obtain ⟨hp', hq'⟩ := hns3.get1 (g := str) (fun _ => rfl) hkn
        have hnl := nameOk_head (hna _ (List.getElem_mem hkn))
        (first | (refine H.wg ?_; clear H; intros; rename_i w H; constructor) | refine wk ?_)
        refine (token_tree H hm hp3 hb hRk.head.1 hRk.head.2 (.inl (by obtain ⟨c, y, hc, _⟩ := hnl; rw [hc]; simp))).use ?_
        clear H
        rintro q w ⟨rfl, r, H⟩
        replace hRk := hRk.tail hb
        (first | (refine H.wg ?_; clear H; intros; rename_i w H; constructor) | refine wk ?_)
        refine (token_tree H hm hp3 hb hRk.head.1 hRk.head.2 (.inl (by simp))).use ?_
        clear H
        rintro q w ⟨rfl, r, H⟩
        replace hRk := hRk.tail hb
        (first | (refine H.wg ?_; clear H; intros; rename_i w H; constructor) | refine wk ?_)
        refine (ih (by omega) hE3 H hm hp3 hb hx hpB hsub hpw hRk.left).use ?_
        clear H
        rintro q w ⟨rfl, V4, r, hV4, H⟩
        (first | (refine H.wg ?_; clear H; intros; rename_i w H; constructor) | refine wk ?_)
        exact ⟨(by repeat (first | exact trivial | refine ⟨rfl, ?_⟩)), k + 1, (by repeat (first | exact trivial | refine ⟨rfl, ?_⟩)), ⟨by omega, V4, r, hV13.trans hV4, by rw [hnext]; exact H⟩, by omega⟩
    · have eo : opT v.kind = [91] := by rw [opT, if_neg k4]
      have ee : enT v.kind = [93] := by rw [enT, if_neg k4]
      rw [eo, ee] at hR ⊢
      (first | (refine H.wg ?_; clear H; intros; rename_i w H; constructor) | refine wk ?_)
      refine (token_tree H hm hp hb hR.head.1 hR.head.2 (.inl (by simp))).use ?_
      clear H
      rintro q w ⟨rfl, r, H⟩
      (first | (refine H.wg ?_; clear H; intros; rename_i w H; constructor) | refine wk ?_)
      refine loop_inv (S := Nat) tabOk [0, 1, 3, 4, 5, 6, 10, 11, 18, 28, 33, 34] (fun k => [(35, iv (k : Int))]) (fun k w' => k ≤ v.parts.length ∧ ∃ (V' : World) (r' : Sl), Sub V1 V' ∧ Rel w0 V0 (WrO wb mb r' es clk (([91] :: tokL v.kind v.names (v.parts.take k)).foldl (tkW Z) s) ++ own) V' w') (fun k _ => v.parts.length - k) 0 ?_
      (conv => whnf)
      refine ⟨(by repeat (first | exact trivial | refine ⟨rfl, ?_⟩)), ⟨Nat.zero_le _, V1, r, Sub.refl _, by rw [List.take_zero, tokL_nil]; exact H⟩, ?_⟩
      clear H
      rintro k w ⟨hk, V2, r, hV2, H⟩
      by_cases hlt : k < v.parts.length
      rotate_left
      · rw [List.take_of_length_le (by omega)] at H
        have hRe := Room.right hb (a := [91] :: tokL v.kind v.names v.parts) (b := [[93]]) hR
        (first | (refine H.wg ?_; clear H; intros; rename_i w H; constructor) | refine wk ?_)
        refine (token_tree H hm (hp.up BkR.up hV2) hb hRe.head.1 hRe.head.2 (.inl (by simp))).use ?_
        clear H
        rintro q w ⟨rfl, r, H⟩
        (first | (refine H.wg ?_; clear H; intros; rename_i w H; constructor) | refine wk ?_)
        exact ⟨V2, r, hV1.trans hV2, by rw [← List.cons_append, List.foldl_append]; exact H⟩
      obtain ⟨R, hsp⟩ := part_split hlt
      obtain ⟨hq, x, hx, q0, q1, q2, q3, q4⟩ := (hv.up hV2).part5 hlt
      have hmem := List.getElem_mem hlt
      obtain ⟨a', m', hsub⟩ := chkL_all hpo _ hmem
      obtain ⟨p, hpe⟩ : ∃ p, p = v.parts[k] := ⟨_, rfl⟩
      have hsl := Val.part_lt hmem
      have hpB := hB.part _ hmem
      have hpw := hw.part _ hmem
      have hns2 := hns.up hV2
      rw [← hpe] at hsp hx hsub hsl hpB hpw
      obtain ⟨sk, hsk⟩ : ∃ sk, sk = ([91] :: tokL v.kind v.names (v.parts.take k)).foldl (tkW Z) s := ⟨_, rfl⟩
      rw [← hsk] at H
      have hRk : Room sk (tokE v.kind v.names k p ++ (R ++ [[93]])) := by
        rw [hsk]
        refine Room.right hb ?_
        rw [hsp] at hR
        simpa only [List.cons_append, List.append_assoc] using hR
      have hnext : ([91] :: tokL v.kind v.names (v.parts.take (k + 1))).foldl (tkW Z) s = (tokE v.kind v.names k p).foldl (tkW Z) sk := by
        rw [List.take_succ_eq_append_getElem hlt, tokL_snoc, List.length_take, show min k v.parts.length = k by omega, ← List.cons_append, List.foldl_append, ← hsk, hpe]
      unfold tokE at hRk hnext
      (first | (refine H.wh ?_; clear H; intros; rename_i w H; constructor) | refine wk ?_)
      ((first | refine Rel.nwD H ?_ | refine Rel.nw H ?_); clear H; intro w b5 H)
      (first | (refine H.wg ?_; clear H; intros; rename_i w H; constructor) | refine wk ?_)
      obtain ⟨V3, hV3, H, hb5⟩ := H.freezeBlk
      have d0 : V3.cell? ⟨b5, 0, none⟩ = some (iv x.k) := hb5.cel rfl
      have d1 : V3.cell? ⟨b5, 1, none⟩ = some (iv x.n) := hb5.cel rfl
      have d2 : V3.cell? ⟨b5, 2, none⟩ = some x.bs.v := hb5.cel rfl
      have d3 : V3.cell? ⟨b5, 3, none⟩ = some x.ss.v := hb5.cel rfl
      have d4 : V3.cell? ⟨b5, 4, none⟩ = some x.pl.v := hb5.cel rfl
      have hV13 := hV2.trans hV3
      have hp3 := hp.up BkR.up hV13
      have hE3 := hE.up hV13
      replace hx := hx.up hV3
      replace c3 := hV13.cell c3
      have hns3 := hns2.up hV3
      by_cases h0 : k = 0
      rotate_left
      · rw [if_neg h0] at hRk hnext
        (first | (refine H.wg ?_; clear H; intros; rename_i w H; constructor) | refine wk ?_)
        refine (token_tree H hm hp3 hb hRk.head.1 hRk.head.2 (.inl (by simp))).use ?_
        clear H
        rintro q w ⟨rfl, r, H⟩
        replace hRk := hRk.tail hb
        rw [if_neg k4] at hRk hnext
        (first | (refine H.wg ?_; clear H; intros; rename_i w H; constructor) | refine wk ?_)
        refine (ih (by omega) hE3 H hm hp3 hb hx hpB hsub hpw hRk.left).use ?_
        clear H
        rintro q w ⟨rfl, V4, r, hV4, H⟩
        (first | (refine H.wg ?_; clear H; intros; rename_i w H; constructor) | refine wk ?_)
        exact ⟨(by repeat (first | exact trivial | refine ⟨rfl, ?_⟩)), k + 1, (by repeat (first | exact trivial | refine ⟨rfl, ?_⟩)), ⟨by omega, V4, r, hV13.trans hV4, by rw [hnext]; exact H⟩, by omega⟩
      · rw [if_pos h0] at hRk hnext
        (first | (refine H.wg ?_; clear H; intros; rename_i w H; constructor) | refine wk ?_)
        rw [if_neg k4] at hRk hnext
        (first | (refine H.wg ?_; clear H; intros; rename_i w H; constructor) | refine wk ?_)
        refine (ih (by omega) hE3 H hm hp3 hb hx hpB hsub hpw hRk.left).use ?_
        clear H
        rintro q w ⟨rfl, V4, r, hV4, H⟩
        (first | (refine H.wg ?_; clear H; intros; rename_i w H; constructor) | refine wk ?_)
        exact ⟨(by repeat (first | exact trivial | refine ⟨rfl, ?_⟩)), k + 1, (by repeat (first | exact trivial | refine ⟨rfl, ?_⟩)), ⟨by omega, V4, r, hV13.trans hV4, by rw [hnext]; exact H⟩, by omega⟩
end
end Go.Proofs.YtffaffojkfalhaaGreatDoor
