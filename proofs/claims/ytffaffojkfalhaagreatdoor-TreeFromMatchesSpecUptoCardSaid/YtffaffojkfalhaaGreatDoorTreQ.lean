/-
  Files of trees, plain: what the loops of the reference do.
-/
import Derived.Test.YtffaffojkfalhaaGreatDoorTreS
namespace Go.Proofs.YtffaffojkfalhaaGreatDoor
open Go Go.RowKit

/-! ### numbers -/
theorem decDigits_step {u : Nat} (h : ¬ u < 10) : Lib.decDigits u = Lib.decDigits (u / 10) ++ [UInt8.ofNat (48 + u % 10)] := by
  conv => lhs; rw [Lib.decDigits]
  rw [dif_neg h]
theorem dec_le : ∀ (k u : Nat), u < 10 ^ (k + 1) → (Lib.decDigits u).length ≤ k + 1
  | 0, u, h => by rw [Lib.decDigits_one (by simpa using h)]; simp
  | k + 1, u, h => by
    by_cases h10 : u < 10
    · rw [Lib.decDigits_one h10]; simp
    · have := dec_le k (u / 10) (by rw [Nat.pow_succ] at h; omega)
      rw [decDigits_step h10, List.length_append, List.length_singleton]
      omega
theorem itoa_le20 {v : Int} (h : I64 v) : (Lib.itoa v).length ≤ 20 := by
  have key : ∀ u : Nat, u ≤ 9223372036854775808 → (Lib.decDigits u).length ≤ 19 := fun u hu => dec_le 18 u (by omega)
  unfold Lib.itoa
  split
  · have := key v.natAbs (by omega)
    simp only [List.length_cons]
    omega
  · have := key v.toNat (by omega)
    omega
def dvS (a : Nat) (c : UInt8) : Nat := if c = 45 then a else 10 * a + (c.toNat - 48)
abbrev dvN (s : List UInt8) : Nat := s.foldl dvS 0
theorem dvS_dg {a : Nat} {c : UInt8} (h : isDg c = true) : dvS a c = 10 * a + (c.toNat - 48) := by
  unfold dvS
  rw [if_neg]
  rintro rfl
  exact absurd h (by decide)
theorem dv_dec (u : Nat) : dvN (Lib.decDigits u) = u := by
  induction u using Nat.strongRecOn with
  | _ u ih =>
    by_cases h : u < 10
    · rw [Lib.decDigits_one h]
      show dvS 0 _ = u
      rw [dvS_dg (by simp only [isDg, dg_nat h]; simp; omega), dg_nat h]
      omega
    · have hm : u % 10 < 10 := by omega
      rw [decDigits_step h]
      show List.foldl dvS 0 _ = u
      rw [List.foldl_append]
      have := ih (u / 10) (by omega)
      unfold dvN at this
      rw [this]
      show dvS (u / 10) _ = u
      rw [dvS_dg (by simp only [isDg, dg_nat hm]; simp; omega), dg_nat hm]
      omega
theorem dv_itoa (v : Int) : dvN (Lib.itoa v) = v.natAbs := by
  unfold Lib.itoa
  split
  · exact dv_dec v.natAbs
  · have := dv_dec v.toNat
    rw [this]
    omega
theorem dv_ge : ∀ (l : List UInt8) (a : Nat), a ≤ l.foldl dvS a
  | [], a => Nat.le_refl _
  | c :: l, a => by
    have := dv_ge l (dvS a c)
    have h2 : a ≤ dvS a c := by unfold dvS; split <;> omega
    exact Nat.le_trans h2 this
theorem dv_take {s : List UInt8} {i : Nat} (hi : i < s.length) : dvN (s.take (i + 1)) = dvS (dvN (s.take i)) s[i] := by
  unfold dvN
  rw [List.take_succ_eq_append_getElem hi, List.foldl_append]
  rfl
theorem dv_ten {s : List UInt8} {i : Nat} (hi : i < s.length) (hd : isDg s[i] = true) : 10 * dvN (s.take i) ≤ dvN s := by
  have h1 : dvN s = (s.drop (i + 1)).foldl dvS (dvN (s.take (i + 1))) := by
    unfold dvN
    rw [← List.foldl_append, List.take_append_drop]
  have h2 := dv_ge (s.drop (i + 1)) (dvN (s.take (i + 1)))
  rw [← h1, dv_take hi, dvS_dg hd] at h2
  omega
theorem itoa_head (v : Int) : (Lib.itoa v).head? = some 45 ↔ v < 0 := by
  unfold Lib.itoa
  split
  · rename_i h
    exact ⟨fun _ => h, fun _ => rfl⟩
  · rename_i h
    refine ⟨fun e => ?_, fun e => absurd e h⟩
    obtain ⟨c, r, hc⟩ := dec_ne v.toNat
    have hd := dec_dg v.toNat c (by rw [hc]; simp)
    rw [hc] at e
    simp only [List.head?_cons, Option.some.injEq] at e
    subst e
    exact absurd hd (by decide)
theorem trNum_no {s : List UInt8} (h : ∀ v, I64 v → s = Lib.itoa v → False) : trNum s = none := by
  cases e : trNum s with
  | none => rfl
  | some v =>
    obtain ⟨h1, h2⟩ := trNum_some e
    exact (h v h2 h1).elim
/-- a byte that no number has at its place -/
theorem num_byte {s : List UInt8} {i : Nat} (hi : i < s.length) (h1 : ¬ (i = 0 ∧ s[i] = 45)) (h2 : isDg s[i] = false) : trNum s = none := by
  refine trNum_no fun v _ e => ?_
  subst e
  obtain ⟨c, r, hc, h3, h4⟩ := itoa_ne v
  cases i with
  | zero =>
    have e : (Lib.itoa v)[0] = c := by simp [hc]
    rw [e] at h1 h2
    rcases h3 with rfl | h3
    · exact h1 ⟨rfl, rfl⟩
    · rw [h3] at h2; cases h2
  | succ i =>
    have hi' : i < r.length := by rw [hc] at hi; simpa using hi
    have e : (Lib.itoa v)[i + 1] = r[i] := by simp [hc]
    rw [e, h4 _ (List.getElem_mem hi')] at h2
    cases h2
theorem num_long {s : List UInt8} (h : 20 < s.length) : trNum s = none := by
  refine trNum_no fun v hv e => ?_
  have := itoa_le20 hv
  rw [← e] at this
  omega
theorem num_big {s : List UInt8} {i : Nat} (hi : i < s.length) (hd : isDg s[i] = true) (h : 922337203685477580 < dvN (s.take i)) : trNum s = none := by
  refine trNum_no fun v hv e => ?_
  have h1 := dv_ten hi hd
  have h2 := dv_itoa v
  rw [← e] at h2
  have := hv.1
  have := hv.2
  omega
theorem num_end {s : List UInt8} {n : Int} (hn : I64 n) (h1 : s.head? = some 45 → dvN s ≤ 9223372036854775808 → n = -((dvN s : Nat) : Int)) (h2 : s.head? ≠ some 45 → dvN s ≤ 9223372036854775807 → n = ((dvN s : Nat) : Int)) : trNum s = if Lib.itoa n = s then some n else none := by
  split
  · rename_i e
    rw [← e]
    exact trNum_of hn
  · rename_i hne
    refine trNum_no fun v hv e => hne ?_
    have hd := dv_itoa v
    have hh := itoa_head v
    rw [← e] at hd hh
    have := hv.1
    have := hv.2
    have : n = v := by
      by_cases hv0 : v < 0
      · have := h1 (hh.2 hv0) (by omega)
        omega
      · have := h2 (fun q => hv0 (hh.1 q)) (by omega)
        omega
    rw [this, e]
theorem num_endB {s : List UInt8} {n : Int} (hn : I64 n) (h1 : s.head? = some 45 → dvN s ≤ 9223372036854775808 → n = -((dvN s : Nat) : Int)) (h2 : s.head? ≠ some 45 → dvN s ≤ 9223372036854775807 → n = ((dvN s : Nat) : Int)) : trNum s = if decide (Lib.itoa n = s) = true then some n else none := by
  rw [num_end hn h1 h2]
  simp only [decide_eq_true_eq]

/-! ### strings -/
def hexU (h l : UInt8) (n : Nat) : List UInt8 := match hexN h, hexN l with
  | some a, some b => if 16 * a + b < n then [UInt8.ofNat (16 * a + b)] else []
  | _, _ => []
theorem hexU_zero (h l : UInt8) : hexU h l 0 = [] := by
  unfold hexU
  split
  · rw [if_neg (by omega)]
  · rfl
theorem hexU_end (h l : UInt8) : hexU h l 256 = hexC h l := by
  unfold hexU hexC
  cases ha : hexN h with
  | none => rfl
  | some a =>
    cases hb : hexN l with
    | none => rfl
    | some b =>
      have := (hexN_some ha).1
      have := (hexN_some hb).1
      simp only
      rw [if_pos (by omega)]
theorem hexU_step (h l : UInt8) {n : Nat} (hn : n < 256) : hexU h l (n + 1) = hexU h l n ++ (if [hexD (n / 16), hexD (n % 16)] = [h, l] then [UInt8.ofNat n] else []) := by
  have d1 := hexN_hexD (show n / 16 < 16 by omega)
  have d2 := hexN_hexD (show n % 16 < 16 by omega)
  unfold hexU
  cases ha : hexN h with
  | none =>
    rw [if_neg]
    · rfl
    · intro e
      simp only [List.cons.injEq, and_true] at e
      rw [e.1, ha] at d1
      cases d1
  | some a =>
    cases hb : hexN l with
    | none =>
      rw [if_neg]
      · rfl
      · intro e
        simp only [List.cons.injEq, and_true] at e
        rw [e.2, hb] at d2
        cases d2
    | some b =>
      obtain ⟨a1, a2⟩ := hexN_some ha
      obtain ⟨b1, b2⟩ := hexN_some hb
      simp only
      by_cases he : n = 16 * a + b
      · have e1 : n / 16 = a := by omega
        have e2 : n % 16 = b := by omega
        rw [if_pos (by omega), if_neg (by omega), e1, e2, a2, b2, if_pos rfl, he]
        rfl
      · have hne : ¬ [hexD (n / 16), hexD (n % 16)] = [h, l] := by
          intro e
          simp only [List.cons.injEq, and_true] at e
          rw [e.1, ha] at d1
          rw [e.2, hb] at d2
          cases d1
          cases d2
          omega
        rw [if_neg hne, List.append_nil]
        by_cases hlt : 16 * a + b < n
        · rw [if_pos hlt, if_pos (by omega)]
        · rw [if_neg hlt, if_neg (by omega)]
theorem hexU_len (h l : UInt8) (n : Nat) : (hexU h l n).length ≤ 1 := by
  unfold hexU
  split
  · split <;> simp
  · simp
theorem unqR_short {l : List UInt8} (h : l.length < 2) : unqR l = [] := by rw [unqR, dif_pos h]
theorem unqR_cut {l : List UInt8} (h : l.length < 5) (h2 : 2 ≤ l.length) (h0 : l.take 2 = [92, 120]) : unqR l = [] := by
  match l, h, h2, h0 with
  | [c, d], _, _, h0 =>
    simp only [List.take_succ_cons, List.take_zero, List.cons.injEq, and_true] at h0
    rw [h0.1, h0.2, unqR_step, unq1_cons, if_neg (by decide), if_neg (by decide)]
    exact unqR_short (by simp)
  | [c, d, e], _, _, h0 =>
    simp only [List.take_succ_cons, List.take_zero, List.cons.injEq, and_true] at h0
    rw [h0.1, h0.2, unqR_step, unq1_cons, if_neg (by decide), if_neg (by decide)]
    exact unqR_short (by simp)
  | [c, d, e, f], _, _, h0 =>
    simp only [List.take_succ_cons, List.take_zero, List.cons.injEq, and_true] at h0
    rw [h0.1, h0.2, unqR_step, unq1_cons, if_neg (by decide), if_neg (by decide)]
    exact unqR_short (by simp)

/-! ### values -/
def vaL (f : VaF) (k : Int) (m : Nat) (x : VL) : Option VL := match x.2.2 with
  | [] => none
  | t :: r => if t = enT k ∧ x.2.1 = [] then some (x.1, x.2.1, r) else vaQ f k m (x.1, x.2.1, t :: r)
theorem vaB_vaL (f : VaF) (k : Int) (ts : List Tok) : vaB f k ts = vaL f k (ts.length + 1) ([], [], ts) := by
  unfold vaB vaL
  cases ts with
  | nil => rfl
  | cons t r => simp
theorem vaQ_nil {f : VaF} (hf : f [] = none) (k : Int) (m : Nat) (ns : List (List UInt8)) (ps : List Val) : vaQ f k m (ns, ps, []) = none := by
  cases m with
  | zero => rfl
  | succ m =>
    rw [vaQ]
    simp only
    unfold vaE
    by_cases hk : k = 4
    · rw [if_pos hk]
    · rw [if_neg hk, hf]
theorem vaL_more {f : VaF} (hf : f [] = none) (k : Int) (m : Nat) {ns : List (List UInt8)} {ps : List Val} (hp : ps ≠ []) (q : List Tok) : vaQ f k m (ns, ps, q) = vaL f k m (ns, ps, q) := by
  unfold vaL
  cases q with
  | nil => exact vaQ_nil hf k m ns ps
  | cons t r =>
    simp only
    rw [if_neg (fun h => hp h.2)]
theorem vaL_step {f : VaF} (hf : f [] = none) (k : Int) (m : Nat) {ns : List (List UInt8)} {ps : List Val} {t : Tok} {r : List Tok} (h : ¬ (t = enT k ∧ ps = [])) : vaL f k (m + 1) (ns, ps, t :: r) = match vaE f k ns (t :: r) with
    | none => none
    | some (ns', v, q) => match q with
      | [] => none
      | u :: q' => if u = enT k then some (ns', ps ++ [v], q') else if u = [44] then vaL f k m (ns', ps ++ [v], q') else none := by
  unfold vaL
  simp only
  rw [if_neg h, vaQ]
  simp only
  cases vaE f k ns (t :: r) with
  | none => rfl
  | some x =>
    obtain ⟨ns', v, q⟩ := x
    cases q with
    | nil => rfl
    | cons u q' =>
      simp only
      split
      · rfl
      · split
        · exact vaL_more hf k m (by simp) q'
        · rfl
theorem vaV_nil (n : Nat) : vaV n [] = none := by cases n <;> rfl

/-! ### blanks of the plain way -/
theorem name_af {x : List UInt8} (h : nameOk x = true) : af x = false := by
  obtain ⟨c, r, hc, h1, _⟩ := nameOk_head h
  have n1 : x ≠ [44] := fun e => by rw [hc] at e; simp only [List.cons.injEq] at e; rw [e.1] at h1; exact absurd h1 (by decide)
  have n2 : x ≠ [58] := fun e => by rw [hc] at e; simp only [List.cons.injEq] at e; rw [e.1] at h1; exact absurd h1 (by decide)
  simp [af, n1, n2]
theorem afT_part (k : Int) (s : List (List UInt8)) (sp : Bool) (ps : List Val) : afT sp (opT k :: tokL k s ps) = false := by
  rcases List.eq_nil_or_concat ps with rfl | ⟨qs, p, rfl⟩
  · rw [tokL_nil]
    show af [if k = 4 then 123 else 91] = false
    split <;> decide
  · rw [List.concat_eq_append, tokL_snoc]
    unfold tokE
    rw [← List.cons_append, ← List.append_assoc, ← List.append_assoc, afT_append, afT_tokV]
theorem wants_snoc (k : Int) (s : List (List UInt8)) (sp : Bool) (ps : List Val) (p : Val) : wants sp (opT k :: tokL k s (ps ++ [p])) = wants sp (opT k :: tokL k s ps) ++ wants false (tokE k s ps.length p) := by
  rw [tokL_snoc, ← List.cons_append, wants_append, afT_part]
theorem wants_end (k : Int) (s : List (List UInt8)) (sp : Bool) (ps : List Val) : wants sp (opT k :: (tokL k s ps ++ [enT k])) = wants sp (opT k :: tokL k s ps) ++ [[]] := by
  rw [← List.cons_append, wants_append, afT_part]
  rfl
theorem wants_part (k : Int) (s : List (List UInt8)) (i : Nat) (p : Val) (hn : k = 4 → nameOk (s.getD i []) = true) : wants false (tokE k s i p) = (if i = 0 then [] else [[]]) ++ ((if k = 4 then [wantB (decide (i ≠ 0)), []] else []) ++ wants (decide (i ≠ 0) || decide (k = 4)) (tokV p)) := by
  unfold tokE
  by_cases hi : i = 0
  · rw [if_pos hi, if_pos hi, List.nil_append, List.nil_append]
    by_cases hk : k = 4
    · rw [if_pos hk, if_pos hk]
      simp only [List.cons_append, List.nil_append, wants, hi, hk]
      rw [name_af (by rw [← hi]; exact hn hk)]
      rfl
    · rw [if_neg hk, if_neg hk]
      simp [hi, hk]
  · rw [if_neg hi, if_neg hi]
    by_cases hk : k = 4
    · rw [if_pos hk, if_pos hk]
      simp only [List.cons_append, List.nil_append, wants, hi, hk]
      rw [name_af (hn hk), decide_eq_true hi]
      rfl
    · rw [if_neg hk, if_neg hk, decide_eq_true hi]
      rfl
/-- what differs -/
def difP (bs us : List (List UInt8)) : List Blk2 := ((bs.zip us).zipIdx).flatMap fun x => if x.1.1 = x.1.2 then [] else [(x.2, x.1.1)]
theorem othB_difP {L : BL} {lb : List UInt8} : othB L lb = difP (L.map Prod.fst ++ [lb]) (wants false (L.map Prod.snd) ++ [[10]]) := by
  unfold difP
  rw [List.zip_append (by rw [List.length_map, wants_len, List.length_map]), List.zipIdx_append, List.flatMap_append, ← dif_wants]
  unfold othB
  congr 1
  have : ((L.map Prod.fst).zip (wants false (L.map Prod.snd))).length = L.length := by rw [List.length_zip, wants_len, List.length_map, List.length_map]; omega
  simp only [List.zip_cons_cons, List.zip_nil_right, List.zipIdx_cons, List.zipIdx_nil, List.flatMap_cons, List.flatMap_nil, List.append_nil, this, Nat.zero_add]
theorem difP_step {bs us : List (List UInt8)} {k : Nat} (h1 : k < bs.length) (h2 : k < us.length) : difP (bs.take (k + 1)) (us.take (k + 1)) = difP (bs.take k) (us.take k) ++ (if bs[k] = us[k] then [] else [(k, bs[k])]) := by
  unfold difP
  rw [List.take_succ_eq_append_getElem h1, List.take_succ_eq_append_getElem h2, List.zip_append (by rw [List.length_take, List.length_take]; omega), List.zipIdx_append, List.flatMap_append]
  congr 1
  have : ((bs.take k).zip (us.take k)).length = k := by rw [List.length_zip, List.length_take, List.length_take]; omega
  simp only [List.zip_cons_cons, List.zip_nil_right, List.zipIdx_cons, List.zipIdx_nil, List.flatMap_cons, List.flatMap_nil, List.append_nil, this, Nat.zero_add]
theorem difP_le (bs us : List (List UInt8)) : (difP bs us).length ≤ bs.length := by
  unfold difP
  have : ∀ (l : List ((List UInt8 × List UInt8) × Nat)), (l.flatMap fun x => if x.1.1 = x.1.2 then [] else [(x.2, x.1.1)]).length ≤ l.length := by
    intro l
    induction l with
    | nil => exact Nat.le_refl _
    | cons x l ih =>
      rw [List.flatMap_cons, List.length_append, List.length_cons]
      have : (if x.1.1 = x.1.2 then [] else [(x.2, x.1.1)]).length ≤ 1 := by split <;> simp
      omega
  refine Nat.le_trans (this _) ?_
  rw [List.length_zipIdx, List.length_zip]
  omega

/-! ### the file -/
def mixB (Z : List Blk2) (i : Nat) (bs : List (List UInt8)) : List (List UInt8) := (bs.zipIdx i).map fun x => (lkB Z x.2).getD x.1
abbrev outB (bs : List (List UInt8)) (ts : List Tok) : List UInt8 := (bs.zip ts).flatMap fun x => x.1 ++ x.2
theorem foldl_mix (Z : List Blk2) : ∀ (ts : List Tok) (out : List UInt8) (i : Nat) (ls : Tok), (∀ t ∈ ts, t ≠ []) → ∃ ls', ts.foldl (tkW Z) ⟨out, i, ls⟩ = ⟨out ++ outB (mixB Z i (wants (af ls) ts)) ts, i + ts.length, ls'⟩
  | [], out, i, ls, _ => ⟨ls, by simp [outB, mixB, wants]⟩
  | t :: ts, out, i, ls, h => by
    have ht := h t (by simp)
    obtain ⟨ls', ih⟩ := foldl_mix Z ts (out ++ ((lkB Z i).getD (wantB (af ls)) ++ t)) (i + 1) t fun x hx => h x (by simp [hx])
    refine ⟨ls', ?_⟩
    have e : tkW Z ⟨out, i, ls⟩ t = ⟨out ++ ((lkB Z i).getD (wantB (af ls)) ++ t), i + 1, t⟩ := by
      unfold tkW
      simp only [if_neg ht]
      cases lkB Z i <;> simp
    rw [List.foldl_cons, e, ih]
    simp only [mixB, outB, wants, List.zipIdx_cons, List.map_cons, List.zip_cons_cons, List.flatMap_cons, List.length_cons]
    rw [show i + 1 + ts.length = i + (ts.length + 1) by omega]
    simp [List.append_assoc]
theorem treOut_mix {v : Val} (hv : WfV v) (Z : List Blk2) : treOut v Z = outB (mixB Z 0 (wants false (tokV v) ++ [[10]])) (tokV v ++ [[]]) := by
  obtain ⟨ls, h⟩ := foldl_mix Z (tokV v) [] 0 [] fun t ht => by
    obtain ⟨c, r, hc, _⟩ := tok_ne hv ht
    rw [hc]; simp
  unfold treOut
  rw [h]
  have hl : (mixB Z 0 (wants false (tokV v))).length = (tokV v).length := by simp [mixB, wants_len]
  have e : mixB Z 0 (wants false (tokV v) ++ [[10]]) = mixB Z 0 (wants false (tokV v)) ++ [(lkB Z (tokV v).length).getD [10]] := by
    unfold mixB
    rw [List.zipIdx_append, List.map_append, wants_len]
    simp
  rw [e]
  unfold outB
  rw [List.zip_append hl, List.flatMap_append]
  simp only [tkW, Nat.zero_add, List.nil_append]
  have : af ([] : Tok) = false := by decide
  rw [this]
  simp only [List.zip_cons_cons, List.zip_nil_right, List.flatMap_cons, List.flatMap_nil, List.append_nil]
  congr 1
  cases lkB Z (tokV v).length <;> rfl
abbrev setB (bs : List (List UInt8)) (z : Blk2) : List (List UInt8) := bs.set z.1 z.2
theorem setB_len : ∀ (Z : List Blk2) (bs : List (List UInt8)), (Z.foldl setB bs).length = bs.length
  | [], _ => rfl
  | z :: Z, bs => by rw [List.foldl_cons, setB_len, List.length_set]
theorem lkB_cons_ne {z : Blk2} {Z : List Blk2} {i : Nat} (h : z.1 ≠ i) : lkB (z :: Z) i = lkB Z i := by simp [lkB, List.find?_cons, h]
theorem lkB_cons_eq {z : Blk2} {Z : List Blk2} : lkB (z :: Z) z.1 = some z.2 := by simp [lkB, List.find?_cons]
theorem lkB_no {Z : List Blk2} {i : Nat} (h : ∀ x ∈ Z, i < x.1) : lkB Z i = none := by
  unfold lkB
  rw [List.find?_eq_none.2]
  · rfl
  · intro x hx
    have := h x hx
    simp only [decide_eq_true_eq]
    omega
theorem setB_get : ∀ {Z : List Blk2} (_ : Z.Pairwise fun x y => x.1 < y.1) (bs : List (List UInt8)) (i : Nat) (h : i < bs.length), (Z.foldl setB bs)[i]? = some ((lkB Z i).getD bs[i])
  | [], _, bs, i, h => by simp [lkB, h]
  | z :: Z, hp, bs, i, h => by
    obtain ⟨h1, h2⟩ := List.pairwise_cons.1 hp
    rw [List.foldl_cons, setB_get h2 (setB bs z) i (by simpa [setB] using h)]
    by_cases hz : z.1 = i
    · subst hz
      rw [lkB_no h1, lkB_cons_eq]
      simp
    · rw [lkB_cons_ne hz]
      simp [List.getElem_set_ne hz]
theorem setB_mix {Z : List Blk2} (hp : Z.Pairwise fun x y => x.1 < y.1) (bs : List (List UInt8)) : Z.foldl setB bs = mixB Z 0 bs := by
  refine List.ext_getElem? fun i => ?_
  unfold mixB
  rw [List.getElem?_map, List.getElem?_zipIdx]
  by_cases h : i < bs.length
  · rw [setB_get hp bs i h]
    simp [h]
  · rw [List.getElem?_eq_none (by rw [setB_len]; omega), List.getElem?_eq_none (by omega)]
    rfl
theorem treOut_set {v : Val} (hv : WfV v) {Z : List Blk2} (hp : Z.Pairwise fun x y => x.1 < y.1) : treOut v Z = outB (Z.foldl setB (wants false (tokV v) ++ [[10]])) (tokV v ++ [[]]) := by
  rw [treOut_mix hv, setB_mix hp]
theorem outB_step {bs : List (List UInt8)} {ts : List Tok} {k : Nat} (h1 : k < bs.length) (h2 : k < ts.length) : outB (bs.take (k + 1)) (ts.take (k + 1)) = outB (bs.take k) (ts.take k) ++ (bs[k] ++ ts[k]) := by
  unfold outB
  rw [List.take_succ_eq_append_getElem h1, List.take_succ_eq_append_getElem h2, List.zip_append (by rw [List.length_take, List.length_take]; omega), List.flatMap_append]
  simp
end Go.Proofs.YtffaffojkfalhaaGreatDoor
