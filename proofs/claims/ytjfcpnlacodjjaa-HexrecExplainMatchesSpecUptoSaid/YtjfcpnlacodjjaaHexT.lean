/-
  Files of hexadecimal records, plain: flags are tried in order; a segment divided into records in any way.
-/
import Derived.Test.YtjfcpnlacodjjaaHexS
namespace Go.Proofs.Ytjfcpnlacodjjaa
open Go Go.RowKit

theorem hexTo_eq (l : List UInt8) : hexTo l = match hexOne 0 l with
    | some x => some x
    | none => match hexOne 1 l with
      | some x => some x
      | none => match hexOne 2 l with
        | some x => some x
        | none => match hexOne 3 l with
          | some x => some x
          | none => none := rfl
theorem hexTo_of {l : List UInt8} {f : Nat} (hf : f < 4) (hno : ∀ g, g < f → hexOne g l = none) {x : Val × List UInt8} (h : hexOne f l = some x) : hexTo l = some x := by
  rw [hexTo_eq]
  obtain rfl | rfl | rfl | rfl : f = 0 ∨ f = 1 ∨ f = 2 ∨ f = 3 := by omega
  · rw [h]
  · rw [hno 0 (by omega), h]
  · rw [hno 0 (by omega), hno 1 (by omega), h]
  · rw [hno 0 (by omega), hno 1 (by omega), hno 2 (by omega), h]
theorem hexTo_no {l : List UInt8} (h : ∀ g, g < 4 → hexOne g l = none) : hexTo l = none := by
  rw [hexTo_eq, h 0 (by omega), h 1 (by omega), h 2 (by omega), h 3 (by omega)]
theorem hexOne_same {l : List UInt8} {f g : Nat} {rs : List (List UInt8)} (h : recs f l = some rs) (h1 : hexOne f l = none) : hexOne g l = none := by
  cases hg : recs g l with
  | none => unfold hexOne hexRead; rw [hg]
  | some rs' =>
    have e := recs_same h hg
    subst e
    unfold hexOne hexRead at h1 ⊢
    rw [h] at h1
    rw [hg]
    simp only at h1 ⊢
    cases hf : foldR [] [] rs with
    | none => rfl
    | some p =>
      rw [hf] at h1
      simp only at h1 ⊢
      split at h1
      · cases h1
      · rename_i hv
        rw [if_neg hv]
theorem hexTo_first {l : List UInt8} {f : Nat} (hf : f < 4) (hno : ∀ g, g < f → hexOne g l = none) {rs : List (List UInt8)} (h : recs f l = some rs) : hexTo l = hexOne f l := by
  cases h1 : hexOne f l with
  | some x => exact hexTo_of hf hno h1
  | none => exact hexTo_no fun g _ => hexOne_same h h1
theorem hexOne_recs {l : List UInt8} {f : Nat} {rs : List (List UInt8)} (h : recs f l = some rs) : hexOne f l = match foldR [] [] rs with
    | none => none
    | some (S, Z) => if (vfault (hexVal S)).1 = 0 then some (hexVal S, resB f (szOf S Z)) else none := by
  unfold hexOne hexRead
  rw [h]
  simp only
  cases foldR [] [] rs with
  | none => rfl
  | some p => rfl
theorem hexOne_none {l : List UInt8} {f : Nat} (h : recs f l = none) : hexOne f l = none := by
  unfold hexOne hexRead
  rw [h]
theorem foldR_nil (S : List Seg) (Z : List Nat) : foldR S Z [] = none := by rw [foldR]
/-! ### one segment -/
theorem mkRec_eq (a k : Nat) (c : List UInt8) : mkRec a k c = UInt8.ofNat c.length :: UInt8.ofNat (a / 256) :: UInt8.ofNat a :: UInt8.ofNat k :: (c ++ [sumC (recHd a k c)]) := by
  unfold mkRec recHd
  simp
theorem mkRec_ok {a k : Nat} {c : List UInt8} (hc : c.length ≤ 255) : recOk (mkRec a k c) := by
  have hs : sumB (mkRec a k c) % 256 = 0 := by
    unfold mkRec
    rw [sumB_append]
    have : sumB [sumC (recHd a k c)] = (256 - sumB (recHd a k c) % 256) % 256 := by
      show (UInt8.ofNat (256 - sumB (recHd a k c) % 256)).toNat + 0 = _
      rw [UInt8.toNat_ofNat']
      rfl
    rw [this]
    omega
  refine ⟨?_, ?_, hs⟩
  · rw [mkRec_eq]; simp only [List.length_cons, List.length_append, List.length_nil]; omega
  · rw [mkRec_eq]
    have : b8 (UInt8.ofNat c.length :: UInt8.ofNat (a / 256) :: UInt8.ofNat a :: UInt8.ofNat k :: (c ++ [sumC (recHd a k c)])) 0 = c.length := toNat_ofNat_lt (show c.length < 256 by omega)
    rw [this]
    simp only [List.length_cons, List.length_append, List.length_nil]
    omega
theorem mkRec_parts {a k : Nat} {c : List UInt8} (hc : c.length ≤ 255) (ha : a < 65536) (hk : k < 256) : b8 (mkRec a k c) 0 = c.length ∧ rAt (mkRec a k c) = a ∧ b8 (mkRec a k c) 3 = k ∧ rCont (mkRec a k c) = c := by
  rw [mkRec_eq]
  have h0 : b8 (UInt8.ofNat c.length :: UInt8.ofNat (a / 256) :: UInt8.ofNat a :: UInt8.ofNat k :: (c ++ [sumC (recHd a k c)])) 0 = c.length := toNat_ofNat_lt (show c.length < 256 by omega)
  refine ⟨h0, ?_, toNat_ofNat_lt hk, ?_⟩
  · show 256 * (UInt8.ofNat (a / 256)).toNat + (UInt8.ofNat a).toNat = a
    rw [UInt8.toNat_ofNat', UInt8.toNat_ofNat']
    omega
  · unfold rCont
    rw [h0]
    show (c ++ [sumC (recHd a k c)]).take c.length = c
    rw [List.take_left]
theorem end_ok : recOk (mkRec 0 1 []) ∧ endOk (mkRec 0 1 []) := by
  refine ⟨mkRec_ok (by simp), ?_⟩
  obtain ⟨h1, h2, h3, _⟩ := mkRec_parts (a := 0) (k := 1) (c := []) (by simp) (by decide) (by decide)
  exact ⟨h1, h2, h3⟩
theorem data_ok {a : Nat} {c : List UInt8} (h0 : c ≠ []) (hc : c.length ≤ 255) (ha : a + c.length ≤ 65536) : dataOk (mkRec a 0 c) := by
  have := List.length_pos_iff.2 h0
  obtain ⟨h1, h2, h3, _⟩ := mkRec_parts (a := a) (k := 0) (c := c) hc (by omega) (by decide)
  exact ⟨h3, by omega, by omega⟩
theorem take_ne {d : List UInt8} {n : Nat} (h1 : 1 ≤ n) (h2 : n ≤ d.length) : d.take n ≠ [] ∧ (d.take n).length = n := by
  have : (d.take n).length = n := by simp; omega
  refine ⟨fun e => ?_, this⟩
  rw [e] at this
  simp at this
  omega
/-- records of one segment, behind its first part -/
theorem foldR_cut {a0 : Nat} : ∀ {Z : List Nat} {a : Nat} {d p : List UInt8} {rs : List (List UInt8)} {Z0 : List Nat}, cutSeg a d Z = some (rs, []) → (∀ n ∈ Z, 1 ≤ n ∧ n ≤ 255) → a + d.length ≤ 65536 → a0 + p.length = a → foldR [(a0, p)] Z0 (rs ++ [mkRec 0 1 []]) = some ([(a0, p ++ d)], Z0 ++ Z)
  | [], a, d, p, rs, Z0, h, _, _, _ => by
    by_cases hd : d = []
    · subst hd
      rw [cutSeg_nil] at h
      cases h
      rw [List.nil_append, foldR_one, if_pos end_ok.2, List.append_nil, List.append_nil]
    · rw [cutSeg_no hd] at h
      cases h
  | n :: Z, a, d, p, rs, Z0, h, hz, hb, ha => by
    by_cases hd : d = []
    · subst hd
      rw [cutSeg_nil] at h
      cases h
    · rw [cutSeg_cons hd] at h
      split at h
      · rename_i hn
        cases hc : cutSeg (a + n) (d.drop n) Z with
        | none => rw [hc] at h; cases h
        | some q =>
          obtain ⟨qs, Z'⟩ := q
          rw [hc] at h
          cases h
          have hn2 := hz n (by simp)
          obtain ⟨t1, t2⟩ := take_ne hn2.1 hn
          obtain ⟨p1, p2, p3, p4⟩ := mkRec_parts (a := a) (k := 0) (c := d.take n) (by omega) (by omega) (by decide)
          rw [List.cons_append, foldR_cons _ _ _ (by simp), if_pos (data_ok t1 (by omega) (by omega)), p1, p2, p4, t2]
          have e : addSeg a (d.take n) [(a0, p)] = [(a0, p ++ d.take n)] := by
            have := addSeg_snoc a (d.take n) [] (a0, p)
            rw [List.nil_append] at this
            rw [this, if_pos ha]
            rfl
          rw [e, foldR_cut hc (fun m hm => hz m (by simp [hm])) (by simp only [List.length_drop]; omega) (by rw [List.length_append, t2]; omega)]
          rw [List.append_assoc, List.take_append_drop, List.append_assoc]
          rfl
      · cases h
theorem foldR_seg {a : Nat} {d : List UInt8} {Z : List Nat} {rs : List (List UInt8)} (h0 : d ≠ []) (h : cutSeg a d Z = some (rs, [])) (hz : ∀ n ∈ Z, 1 ≤ n ∧ n ≤ 255) (hb : a + d.length ≤ 65536) : foldR [] [] (rs ++ [mkRec 0 1 []]) = some ([(a, d)], Z) := by
  cases Z with
  | nil => rw [cutSeg_no h0] at h; cases h
  | cons n Z =>
    rw [cutSeg_cons h0] at h
    split at h
    · rename_i hn
      cases hc : cutSeg (a + n) (d.drop n) Z with
      | none => rw [hc] at h; cases h
      | some q =>
        obtain ⟨qs, Z'⟩ := q
        rw [hc] at h
        cases h
        have hn2 := hz n (by simp)
        obtain ⟨t1, t2⟩ := take_ne hn2.1 hn
        obtain ⟨p1, p2, p3, p4⟩ := mkRec_parts (a := a) (k := 0) (c := d.take n) (by omega) (by omega) (by decide)
        rw [List.cons_append, foldR_cons _ _ _ (by simp), if_pos (data_ok t1 (by omega) (by omega)), p1, p2, p4, t2, addSeg_nil]
        have := foldR_cut (a0 := a) (p := d.take n) (Z0 := [n]) hc (fun m hm => hz m (by simp [hm])) (by simp only [List.length_drop]; omega) (by rw [t2])
        rw [List.take_append_drop] at this
        exact this
    · cases h
theorem cutSeg_ok : ∀ {Z : List Nat} {a : Nat} {d : List UInt8}, Z.sum = d.length → (∀ n ∈ Z, 1 ≤ n ∧ n ≤ 255) → ∃ rs, cutSeg a d Z = some (rs, []) ∧ rs.length = Z.length ∧ ∀ r ∈ rs, recOk r ∧ r.length ≤ 260
  | [], a, d, hs, _ => by
    have : d = [] := List.eq_nil_of_length_eq_zero (by simpa using hs.symm)
    subst this
    exact ⟨[], cutSeg_nil _ _, rfl, by simp⟩
  | n :: Z, a, d, hs, hz => by
    have hn := hz n (by simp)
    rw [List.sum_cons] at hs
    have hd : d ≠ [] := by rintro rfl; simp at hs; omega
    obtain ⟨rs, h1, h2, h3⟩ := cutSeg_ok (Z := Z) (a := a + n) (d := d.drop n) (by rw [List.length_drop]; omega) (fun m hm => hz m (by simp [hm]))
    refine ⟨mkRec a 0 (d.take n) :: rs, ?_, by simp [h2], fun r hr => ?_⟩
    · rw [cutSeg_cons hd, if_pos (by omega), h1]
    · rcases List.mem_cons.1 hr with rfl | hr
      · have : (d.take n).length = n := by simp; omega
        refine ⟨mkRec_ok (by omega), ?_⟩
        rw [mkRec_eq]
        simp only [List.length_cons, List.length_append, List.length_nil]
        omega
      · exact h3 r hr
theorem usualN_sum : ∀ (m n : Nat), n ≤ m → (usualN n).sum = n ∧ ∀ k ∈ usualN n, 1 ≤ k ∧ k ≤ 16
  | 0, n, h => by
    obtain rfl : n = 0 := by omega
    rw [usualN_zero]
    exact ⟨rfl, by simp⟩
  | m + 1, n, h => by
    by_cases h0 : n = 0
    · subst h0; rw [usualN_zero]; exact ⟨rfl, by simp⟩
    by_cases h16 : n ≤ 16
    · rw [usualN_small h0 h16]
      exact ⟨by simp, by simp; omega⟩
    · rw [usualN_big (by omega)]
      obtain ⟨h1, h2⟩ := usualN_sum m (n - 16) (by omega)
      refine ⟨by rw [List.sum_cons, h1]; omega, fun k hk => ?_⟩
      rcases List.mem_cons.1 hk with rfl | hk
      · omega
      · exact h2 k hk
theorem sum_lines (fl : Nat) : ∀ (rs : List (List UInt8)), (rs.flatMap (lineB fl)).length ≤ 3 * rs.length + 2 * rs.flatten.length
  | [] => by simp
  | r :: rs => by
    have := sum_lines fl rs
    have := (lineB_len fl r).2
    rw [List.flatMap_cons, List.length_append, List.length_cons, List.flatten_cons, List.length_append]
    omega
theorem cutSeg_size : ∀ {Z : List Nat} {a : Nat} {d : List UInt8} {rs : List (List UInt8)} {Z' : List Nat}, cutSeg a d Z = some (rs, Z') → rs.flatten.length ≤ d.length + 5 * rs.length
  | [], a, d, rs, Z', h => by
    by_cases hd : d = []
    · subst hd; rw [cutSeg_nil] at h; cases h; simp
    · rw [cutSeg_no hd] at h; cases h
  | n :: Z, a, d, rs, Z', h => by
    by_cases hd : d = []
    · subst hd; rw [cutSeg_nil] at h; cases h; simp
    rw [cutSeg_cons hd] at h
    split at h
    · rename_i hn
      cases hc : cutSeg (a + n) (d.drop n) Z with
      | none => rw [hc] at h; cases h
      | some q =>
        obtain ⟨qs, Z2⟩ := q
        rw [hc] at h
        cases h
        have := cutSeg_size hc
        rw [List.length_drop] at this
        rw [List.flatten_cons, List.length_append, mkRec_eq]
        simp only [List.length_cons, List.length_append, List.length_nil, List.length_take]
        omega
    · cases h
/-- a file of one segment, however it is divided -/
theorem hex_seg {a : Nat} {d : List UInt8} {Z : List Nat} (h0 : d ≠ []) (hl : d.length ≤ 200) (hb : a + d.length ≤ 65536) (hs : Z.sum = d.length) (hz : ∀ n ∈ Z, 1 ≤ n ∧ n ≤ 255) (hk : Z.length ≤ 14) (hv : (vfault (hexVal [(a, d)])).1 = 0) {Y : List Nat} (hY : (if Y = [] then usual [(a, d)] else Y) = Z) : ∃ o, hexOut 0 [(a, d)] Y = some o ∧ o.length ≤ 1000 ∧ hexTo o = some (hexVal [(a, d)], resB 0 (szOf [(a, d)] Z)) := by
  obtain ⟨rs, h1, h2, h3⟩ := cutSeg_ok (a := a) hs hz
  have hw : wrAll [(a, d)] Z = some rs := by
    have := wrAll_cons (S := []) h1 (qs := []) (by rw [wrAll, if_pos rfl])
    rwa [List.append_nil] at this
  refine ⟨(rs ++ [mkRec 0 1 []]).flatMap (lineB 0), by unfold hexOut; rw [hY, hw], ?_, ?_⟩
  · have e1 := sum_lines 0 (rs ++ [mkRec 0 1 []])
    have e2 := cutSeg_size h1
    rw [List.length_append, List.flatten_append, List.length_append] at e1
    have e3 : [mkRec 0 1 []].flatten.length = 5 := rfl
    rw [e3] at e1
    simp only [List.length_singleton] at e1
    omega
  · have hr : recs 0 ((rs ++ [mkRec 0 1 []]).flatMap (lineB 0)) = some (rs ++ [mkRec 0 1 []]) := recs_iff.2 ⟨rfl, fun r hr => by
      rcases List.mem_append.1 hr with hr | hr
      · exact (h3 r hr).1
      · rw [List.mem_singleton.1 hr]; exact end_ok.1⟩
    refine hexTo_of (f := 0) (by decide) (fun g hg => by omega) ?_
    rw [hexOne_recs hr, foldR_seg h0 h1 hz hb]
    simp only
    rw [if_pos hv]
theorem chk_seg (a : Nat) (d : List UInt8) : chk 0 (hexVal [(a, d)]) 0 = .ok 4 := by
  have e : pre 0 (hexVal [(a, d)]) = [(hexVal [(a, d)], 0), (segV (a, d), 1), (.mk 1 (a : Int) [] [] [], 2), (.mk 2 0 d [] [], 2)] := by
    rw [pre_eq]
    simp [pre_eq]
  have n1 : ∀ n : Int, nodeCode (.mk 1 n [] [] []) = 0 := fun n => by simp [nodeCode, formBad, Val.kind, Val.num, Val.bytes, Val.names, Val.parts]
  have n2 : nodeCode (.mk 2 0 d [] []) = 0 := by simp [nodeCode, formBad, Val.kind, Val.num, Val.bytes, Val.names, Val.parts]
  have n3 : nodeCode (segV (a, d)) = 0 := by
    unfold nodeCode
    rw [if_neg (by simp [Val.kind]), if_neg (by simp [formBad, Val.kind, Val.num, Val.bytes, Val.names, Val.parts]), if_neg (by simp [Val.parts]), if_neg (by
      show ¬ [sAt, sData].any (fun s => !nameOk s) = true
      decide), if_neg (by
      show ¬ ¬ [sAt, sData].Nodup
      decide)]
  have n4 : nodeCode (hexVal [(a, d)]) = 0 := by simp [nodeCode, formBad, Val.kind, Val.num, Val.bytes, Val.names, Val.parts]
  unfold chk
  rw [e]
  simp [scan, atCode, n1, n2, n3, n4]
theorem vfault_seg {a : Nat} {d : List UInt8} (ha : a ≤ 65536) (hl : d.length ≤ 200) : vfault (hexVal [(a, d)]) = (0, 0) := by
  have hs : enc (hexVal [(a, d)]) = putN 3 ++ (putN 1 ++ (putN 4 ++ (putN 2 ++ (putC sAt ++ (putN 1 ++ putN a) ++ (putC sData ++ (putN 2 ++ putC d)))))) := by
    rw [enc_eq]
    simp only [Val.kind, Val.parts, Val.names, List.map_cons, List.map_nil]
    rw [if_neg (by decide), if_neg (by decide)]
    congr 1
    congr 1
    show ([] ++ enc (segV (a, d))) ++ [] = _
    rw [List.nil_append, List.append_nil, enc_eq]
    simp only [Val.kind, Val.parts, Val.names]
    rw [if_neg (by decide), if_neg (by decide)]
    congr 1
    congr 1
    show (putC sAt ++ enc (.mk 1 (a : Int) [] [] [])) ++ ((putC sData ++ enc (.mk 2 0 d [] [])) ++ []) = _
    rw [enc_num, enc_byt, List.append_nil]
  have hl2 := congrArg List.length hs
  have a1 := putN_len (n := (a : Int)) (by omega) (by omega)
  have a3 := putC_len (b := d) (by omega)
  have a4 := putC_len (b := sAt) (by decide)
  have a5 := putC_len (b := sData) (by decide)
  have a7 := putN_len (n := 4) (by decide) (by decide)
  have a8 := putN_len (n := 3) (by decide) (by decide)
  have a9 := putN_len (n := 1) (by decide) (by decide)
  have a10 := putN_len (n := 2) (by decide) (by decide)
  simp only [List.length_append, List.length_cons, List.length_nil] at hl2 a4 a5
  unfold vfault
  rw [chk_seg]
  simp only
  rw [if_neg (by omega)]
theorem usual_two {a : Nat} {d : List UInt8} {cut : Nat} (h1 : 1 ≤ cut) (h2 : cut < d.length) : [cut, d.length - cut] = usual [(a, d)] ↔ cut = 16 ∧ d.length ≤ 32 := by
  have e : usual [(a, d)] = usualN d.length := by simp [usual]
  rw [e]
  by_cases h16 : d.length ≤ 16
  · rw [usualN_small (by omega) h16]
    constructor
    · intro h; simp at h
    · intro h; omega
  · rw [usualN_big (by omega)]
    by_cases h32 : d.length - 16 ≤ 16
    · rw [usualN_small (by omega) h32]
      constructor
      · intro h
        simp only [List.cons.injEq] at h
        omega
      · rintro ⟨rfl, _⟩
        rfl
    · rw [usualN_big (by omega)]
      have : usualN (d.length - 16 - 16) ≠ [] := by
        intro q
        have := (usualN_sum _ (d.length - 16 - 16) (Nat.le_refl _)).1
        rw [q] at this
        simp at this
        omega
      constructor
      · intro h
        simp only [List.cons.injEq] at h
        exact absurd h.2.2.symm this
      · intro h; omega
theorem usualN_len : ∀ (m n : Nat), n ≤ m → 16 * (usualN n).length ≤ n + 15
  | 0, n, h => by
    obtain rfl : n = 0 := by omega
    rw [usualN_zero]
    simp
  | m + 1, n, h => by
    by_cases h0 : n = 0
    · subst h0; rw [usualN_zero]; simp
    by_cases h16 : n ≤ 16
    · rw [usualN_small h0 h16]; simp only [List.length_singleton]; omega
    · rw [usualN_big (by omega)]
      have := usualN_len m (n - 16) (by omega)
      simp only [List.length_cons]
      omega
theorem hexRd_nil : hexRd [] = some (0, []) := by unfold hexRd; rw [if_pos rfl]
theorem hex_cut {a : Nat} {d : List UInt8} {cut : Nat} (hl : 2 ≤ d.length ∧ d.length ≤ 200) (ha : a + d.length ≤ 65536) (h1 : 1 ≤ cut) (h2 : cut < d.length) :
    (cut = 16 ∧ d.length ≤ 32 → hexMake (hexVal [(a, d)]) (resB 0 [cut, d.length - cut]) = none) ∧
    (¬ (cut = 16 ∧ d.length ≤ 32) → ∃ o, hexMake (hexVal [(a, d)]) (resB 0 [cut, d.length - cut]) = some o ∧ hexTo o = some (hexVal [(a, d)], resB 0 [cut, d.length - cut]) ∧ o.length ≤ 1000) ∧
    ∃ o, hexMake (hexVal [(a, d)]) [] = some o ∧ hexTo o = some (hexVal [(a, d)], []) ∧ o.length ≤ 1000 := by
  have h0 : d ≠ [] := by rintro rfl; simp at hl
  have hS : segOk [(a, d)] := fun s hs => by
    obtain rfl := List.mem_singleton.1 hs
    exact ⟨by dsimp only; omega, h0, by dsimp only; omega⟩
  have hv : (vfault (hexVal [(a, d)])).1 = 0 := by rw [vfault_seg (by omega) hl.2]
  have hz : ∀ n ∈ [cut, d.length - cut], 1 ≤ n ∧ n ≤ 255 := fun n hn => by
    simp only [List.mem_cons, List.not_mem_nil, or_false] at hn
    rcases hn with rfl | rfl <;> omega
  have hrd := hexRd_res (fl := 0) (Z := [cut, d.length - cut]) (by decide) (by simp) hz
  obtain ⟨o, o1, o2, o3⟩ := hex_seg (a := a) (Z := [cut, d.length - cut]) (Y := [cut, d.length - cut]) h0 hl.2 ha (by simp only [List.sum_cons, List.sum_nil]; omega) hz (by simp) hv (if_neg (by simp))
  have hmk1 := fun q => hexMake_yes (v := hexVal [(a, d)]) (hexShape_val hS) hrd o1 o2 q
  have hmk2 := fun q => hexMake_no (v := hexVal [(a, d)]) (hexShape_val hS) hrd o1 q
  have hu := usual_two (a := a) h1 h2
  refine ⟨fun hc => ?_, fun hc => ?_, ?_⟩
  · refine hmk2 fun _ q => ?_
    rw [o3] at q
    unfold szOf at q
    rw [if_pos (hu.2 hc)] at q
    injection q with q
    injection q with _ q
    have := resB_nil.1 q.symm
    simp at this
  · have e : szOf [(a, d)] [cut, d.length - cut] = [cut, d.length - cut] := by
      unfold szOf
      rw [if_neg fun q => hc (hu.1 q)]
    rw [e] at o3
    exact ⟨o, hmk1 o3, o3, o2⟩
  · obtain ⟨u1, u2⟩ := usualN_sum _ d.length (Nat.le_refl _)
    have e : usual [(a, d)] = usualN d.length := by simp [usual]
    obtain ⟨o', p1, p2, p3⟩ := hex_seg (a := a) (Z := usualN d.length) (Y := []) h0 hl.2 ha u1 (fun n hn => by have := u2 n hn; omega) (by have := usualN_len _ d.length (Nat.le_refl _); omega) hv (by rw [if_pos rfl, e])
    have e2 : szOf [(a, d)] (usualN d.length) = [] := by unfold szOf; rw [if_pos e.symm]
    rw [e2, resB_nil.2 ⟨rfl, rfl⟩] at p3
    exact ⟨o', hexMake_yes (hexShape_val hS) hexRd_nil p1 p2 p3, p3, p2⟩
end Go.Proofs.Ytjfcpnlacodjjaa
