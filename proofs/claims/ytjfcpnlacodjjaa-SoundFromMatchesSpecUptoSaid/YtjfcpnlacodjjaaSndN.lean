/-
  Sound files, the reference: PlainSound, soundNotes and what leans on them.
-/
import Derived.Test.YtjfcpnlacodjjaaSndW
namespace Go.Proofs.Ytjfcpnlacodjjaa
open Go Go.RowKit

theorem manyAt_pre {α : Type} {one : Nat → Got α} : ∀ {m k p q q' : Nat} {l l' : List α}, manyAt one k p = .ok l q → manyAt one (k + m) p = .ok l' q' → ∃ x, l' = l ++ x
  | 0, k, p, q, q', l, l', h, h' => by
    rw [Nat.add_zero, h] at h'
    cases h'
    exact ⟨[], by simp⟩
  | m + 1, k, p, q, q', l, l', h, h' => by
    rw [show k + (m + 1) = (k + m) + 1 by omega, manyAt_snoc] at h'
    split at h'
    · cases h'
    · rename_i l1 q1 h1
      split at h'
      · cases h'
      · cases h'
        obtain ⟨x, rfl⟩ := manyAt_pre h h1
        exact ⟨_, List.append_assoc ..⟩
theorem lastOf_get {a : Int} : ∀ {l : List Note} (h : 0 < l.length), lastOf a l = (l[l.length - 1]'(by omega)).1 := by
  intro l h
  rcases List.eq_nil_or_concat l with rfl | ⟨t, y, rfl⟩
  · simp at h
  · simp only [List.concat_eq_append, lastOf_snoc, List.length_append, List.length_cons, List.length_nil]
    rw [List.getElem_append_right (by omega)]
    simp
/-- what soundNotes returns -/
structure NotG (W V : World) (res : Option (Nat × List Note)) (q : Value) (w' : World) : Prop where
  ex : ∃ (V' : World) (rn rp : Sl) (c : Int) (ok : Bool), Sub V V' ∧ Rel W V [] V' w' ∧ q = .tuple #[iv c, rn.v, rp.v, .bool ok] ∧ (match res with
    | none => ok = false
    | some (coding, ns) => ok = true ∧ c = (coding : Int) ∧ RL chkG ChkAtG V' rn (ns.map (·.2)) ∧ SlF itC V' rp (ns.map (·.1)))
section
variable {V W : World}
set_option maxRecDepth 100000 in
set_option maxHeartbeats 1000000 in
theorem soundNotes_ref (hV : Sub V W) {s : Sl} {b : List UInt8} (hs : Byt V s b) (hl : b.length ≤ 1099511620000) (hb : b ≠ []) : Ret Try.prog 52 [s.v].toArray W (NotG W V (sndRd b)) := by
  have H := Rel.start hV
  have hlen := hs.len
  refine cal_of_vc tabOk Try.func52 rfl (by kernel_rfl) 145 rfl (by simp) [0, 2, 3, 4, 5, 6, 7, 8, 9, 10, 11, 12, 13, 14, 15, 16, 17, 18, 19, 28, 48, 51, 69, 118] ?_
  ((repeat ((conv => whnf); first | refine an ?_ | ((first | refine H.nwD ?_ | refine H.nw ?_); clear H; intro w _ H) | refine H.ce ?_ | refine H.db ?_ | refine ea ?_ | refine ol ?_ | (refine H.st ?_; (conv => whnf); clear H; intro w H) | refine cT ?_ | refine cF ?_ | refine cN ?_ | refine cM ?_ | refine H.lw ?_ | refine H.ll ?_)); (conv => whnf))
  refine (get_ref (p := 0) H.data hs (by omega) (Nat.zero_le _)).use ?_
  rintro v w ⟨rfl, K⟩
  (have hKb := K.base; replace H := H.call0 K)
  cases hn : numAt b 0 with
  | bad c i =>
    have hc0 := numAt_ne hn
    have hr : sndRd b = none := by rw [sndRd, if_neg hb, hn]
    rw [hr]
    ((repeat ((conv => whnf); first | refine an ?_ | refine H.ce ?_ | refine H.db ?_ | refine ea ?_ | refine ol ?_ | (refine H.st ?_; (conv => whnf); clear H; intro w H) | refine cT ?_ | refine cF ?_ | refine cN ?_ | refine cM ?_ | refine H.lw ?_ | refine H.ll ?_)); (conv => whnf))
    ((first | refine Rel.nwD H ?_ | refine Rel.nw H ?_); clear H; intro w b8 H)
    ((repeat ((conv => whnf); first | refine an ?_ | ((first | refine H.nwD ?_ | refine H.nw ?_); clear H; intro w _ H) | refine H.ce ?_ | refine H.db ?_ | refine ea ?_ | refine ol ?_ | (refine H.st ?_; (conv => whnf); clear H; intro w H) | refine cT ?_ | refine cF ?_ | refine cN ?_ | refine cM ?_ | refine H.lw ?_ | refine H.ll ?_)); (conv => whnf))
    exact ⟨V, ⟨none, 0, 0⟩, ⟨none, 0, 0⟩, 0, false, Sub.refl _, Rel.back H.sx, rfl, rfl⟩
  | ok c q =>
    obtain ⟨g1, g2, g3, g4, g5⟩ := numAt_ok (Nat.zero_le _) hn
    have hr0 : sndRd b = (if c < 0 ∨ 4 ≤ c then none else match listAt b (noteAt b) 1000 q with
      | .bad _ _ => none
      | .ok ns q => if q ≠ b.length ∨ (c = 1 ∧ ns = []) then none else if notesOk ns.length (-1) ns = true then some (c.toNat, ns) else none) := by
      rw [sndRd, if_neg hb, hn]
      rfl
    ((repeat ((conv => whnf); first | refine an ?_ | refine H.ce ?_ | refine H.db ?_ | refine ea ?_ | refine ol ?_ | (refine H.st ?_; (conv => whnf); clear H; intro w H) | refine cT ?_ | refine cF ?_ | refine cN ?_ | refine cM ?_ | refine H.lw ?_ | refine H.ll ?_)); (conv => whnf))
    ((first | refine Rel.nwD H ?_ | refine Rel.nw H ?_); clear H; intro w b8 H)
    ((repeat ((conv => whnf); first | refine an ?_ | ((first | refine H.nwD ?_ | refine H.nw ?_); clear H; intro w _ H) | refine H.ce ?_ | refine H.db ?_ | refine ea ?_ | refine ol ?_ | (refine H.st ?_; (conv => whnf); clear H; intro w H) | refine cT ?_ | refine cF ?_ | refine cN ?_ | refine cM ?_ | refine H.lw ?_ | refine H.ll ?_)); (conv => whnf))
    refine (get_ref (p := q) H.data hs (by omega) g2).use ?_
    rintro v w ⟨rfl, K⟩
    (have hKb := K.base; replace H := H.call0 K)
    cases hn2 : numAt b q with
    | bad c' i =>
      have hc0 := numAt_ne hn2
      have hr : sndRd b = none := by
        rw [hr0, listAt, hn2]
        split <;> rfl
      rw [hr]
      ((repeat ((conv => whnf); first | refine an ?_ | ((first | refine H.nwD ?_ | refine H.nw ?_); clear H; intro w _ H) | refine H.ce ?_ | refine H.db ?_ | refine ea ?_ | refine ol ?_ | (refine H.st ?_; (conv => whnf); clear H; intro w H) | refine cT ?_ | refine cF ?_ | refine cN ?_ | refine cM ?_ | refine H.lw ?_ | refine H.ll ?_)); (conv => whnf))
      exact ⟨V, ⟨none, 0, 0⟩, ⟨none, 0, 0⟩, 0, false, Sub.refl _, Rel.back H.sx, rfl, rfl⟩
    | ok N q0 =>
      obtain ⟨k1, k2, k3, k4, k5⟩ := numAt_ok g2 hn2
      have hla : listAt b (noteAt b) 1000 q = if N < 0 ∨ 1000 < N then .bad 4 q else manyAt (noteAt b) N.toNat q0 := by rw [listAt, hn2]
      ((repeat ((conv => whnf); first | refine an ?_ | ((first | refine H.nwD ?_ | refine H.nw ?_); clear H; intro w _ H) | refine H.ce ?_ | refine H.db ?_ | refine ea ?_ | refine ol ?_ | (refine H.st ?_; (conv => whnf); clear H; intro w H) | refine cT ?_ | refine cF ?_ | refine cN ?_ | refine cM ?_ | refine H.lw ?_ | refine H.ll ?_)); (conv => whnf))
      refine (in_ref N 0 1000 w).use ?_
      rintro q w' ⟨rfl, rfl⟩
      by_cases hN : 0 ≤ N ∧ N ≤ 1000
      rotate_left
      · have hr : sndRd b = none := by
          rw [hr0, hla, if_pos (by omega : N < 0 ∨ 1000 < N)]
          split <;> rfl
        rw [hr, decide_eq_false hN]
        ((repeat ((conv => whnf); first | refine an ?_ | ((first | refine H.nwD ?_ | refine H.nw ?_); clear H; intro w _ H) | refine H.ce ?_ | refine H.db ?_ | refine ea ?_ | refine ol ?_ | (refine H.st ?_; (conv => whnf); clear H; intro w H) | refine cT ?_ | refine cF ?_ | refine cN ?_ | refine cM ?_ | refine H.lw ?_ | refine H.ll ?_)); (conv => whnf))
        exact ⟨V, ⟨none, 0, 0⟩, ⟨none, 0, 0⟩, 0, false, Sub.refl _, Rel.back H.sx, rfl, rfl⟩
      rw [decide_eq_true hN]
      ((repeat ((conv => whnf); first | refine an ?_ | ((first | refine H.nwD ?_ | refine H.nw ?_); clear H; intro w _ H) | refine H.ce ?_ | refine H.db ?_ | refine ea ?_ | refine ol ?_ | (refine H.st ?_; (conv => whnf); clear H; intro w H) | refine cT ?_ | refine cF ?_ | refine cN ?_ | refine cM ?_ | refine H.lw ?_ | refine H.ll ?_)); (conv => whnf))
      refine (in_ref c 0 3 w).use ?_
      rintro q w' ⟨rfl, rfl⟩
      by_cases hc : 0 ≤ c ∧ c ≤ 3
      rotate_left
      · have hr : sndRd b = none := by rw [hr0, if_pos (by omega : c < 0 ∨ 4 ≤ c)]
        rw [hr, decide_eq_false hc]
        ((repeat ((conv => whnf); first | refine an ?_ | ((first | refine H.nwD ?_ | refine H.nw ?_); clear H; intro w _ H) | refine H.ce ?_ | refine H.db ?_ | refine ea ?_ | refine ol ?_ | (refine H.st ?_; (conv => whnf); clear H; intro w H) | refine cT ?_ | refine cF ?_ | refine cN ?_ | refine cM ?_ | refine H.lw ?_ | refine H.ll ?_)); (conv => whnf))
        exact ⟨V, ⟨none, 0, 0⟩, ⟨none, 0, 0⟩, 0, false, Sub.refl _, Rel.back H.sx, rfl, rfl⟩
      rw [decide_eq_true hc]
      obtain ⟨M, rfl⟩ : ∃ M : Nat, N = M := ⟨N.toNat, by omega⟩
      obtain ⟨C, rfl⟩ : ∃ C : Nat, c = C := ⟨c.toNat, by omega⟩
      rw [if_neg (by omega), hla, if_neg (by omega), Int.toNat_natCast] at hr0
      have hbadK : ∀ {k q1 : Nat} {ys : List Note} {c i : Int}, k < M → manyAt (noteAt b) k q0 = .ok ys q1 → noteAt b q1 = .bad c i → sndRd b = none := by
        intro k q1 ys c i hk h1 h2
        have := manyAt_badAt h1 h2 (M - (k + 1))
        rw [show k + 1 + (M - (k + 1)) = M by omega] at this
        rw [hr0, this]
      have hbadN : ∀ {k q1 q2 : Nat} {ys : List Note} {n : Note}, k < M → ys.length = k → manyAt (noteAt b) k q0 = .ok ys q1 → noteAt b q1 = .ok n q2 → ¬ NoteOk M (lastOf (-1) ys) n → sndRd b = none := by
        intro k q1 q2 ys n hk hyl h1 h2 h3
        have h4 := manyAt_step h1 h2
        rw [hr0]
        cases hm : manyAt (noteAt b) M q0 with
        | bad c i => rfl
        | ok ns q' =>
          simp only
          split
          · rfl
          · rw [if_neg]
            obtain ⟨x, hx⟩ := manyAt_pre (m := M - (k + 1)) h4 (by rw [show k + 1 + (M - (k + 1)) = M by omega]; exact hm)
            have hnl := manyAt_len hm
            rw [hnl]
            have hk' : k < ns.length := by omega
            have := notesOk_false (m := M) (l := ns) (a := -1) hk' (by
              have e1 : ns.take k = ys := by rw [hx, List.append_assoc, ← hyl, List.take_left]
              have e2 : ns[k] = n := by
                have : ns[k]? = some n := by rw [hx, List.append_assoc, List.getElem?_append_right (by omega), hyl]; simp
                exact (List.getElem?_eq_some_iff.1 this).2
              rw [e1, e2]
              exact h3)
            rw [this]
            decide
      ((repeat ((conv => whnf); first | refine an ?_ | ((first | refine H.nwD ?_ | refine H.nw ?_); clear H; intro w _ H) | refine H.ce ?_ | refine H.db ?_ | refine ea ?_ | refine ol ?_ | (refine H.st ?_; (conv => whnf); clear H; intro w H) | refine cT ?_ | refine cF ?_ | refine cN ?_ | refine cM ?_ | refine H.lw ?_ | refine H.ll ?_)); (conv => whnf))
      replace H := H.rowNil 3 1
      replace H := H.rowNil 78 2
      refine loop_inv (S := Nat × Nat × Sl × Sl × List ChkG × List Note) tabOk [0, 6, 8, 9, 28, 48] (fun k => [(7, iv k.2.1), (10, k.2.2.1.v), (11, k.2.2.2.1.v), (12, iv k.1)]) (fun k w' => k.1 ≤ M ∧ k.2.1 ≤ b.length ∧ k.2.2.2.2.2.length = k.1 ∧ manyAt (noteAt b) k.1 q0 = .ok k.2.2.2.2.2 k.2.1 ∧ notesOk M (-1) k.2.2.2.2.2 = true ∧ ∃ V1, Sub V V1 ∧ Pw ChkAtG V1 k.2.2.2.2.1 (k.2.2.2.2.2.map (·.2)) ∧ Rel W V [.row k.2.2.1 78 2 (k.2.2.2.2.1.flatMap chkG), .row k.2.2.2.1 3 1 ((k.2.2.2.2.2.map (·.1)).flatMap itC), .blk b8 [iv 0, iv 0] 29] V1 w') (fun k _ => M - k.1) (0, q0, ⟨none, 0, 0⟩, ⟨none, 0, 0⟩, [], []) ?_
      (conv => whnf)
      refine ⟨(by repeat (first | exact trivial | refine ⟨rfl, ?_⟩)), ⟨by omega, k2, rfl, rfl, rfl, V, Sub.refl _, Pw.nil, H.sx⟩, ?_⟩
      clear H
      rintro ⟨k, p, r10, r11, os, ys⟩ w ⟨hk, hp, hyl, hma, hno, V1, hV1, hpw, H⟩
      dsimp only at hk hp hyl hma hno hpw H ⊢
      by_cases hlt : k < M
      rotate_left
      · obtain rfl : k = M := by omega
        have hol := hpw.len
        rw [hma] at hr0
        simp only [hyl] at hr0
        obtain ⟨V2, hV2, H, h10⟩ := Rel.freezeF H (fun _ => rfl) (by decide)
        obtain ⟨V3, hV3, H, h11⟩ := Rel.freezeF H (fun _ => rfl) (by decide)
        have hpw3 := (hpw.up ChkAtG.up hV2).up ChkAtG.up hV3
        by_cases hpe : p = b.length
        rotate_left
        · rw [if_pos (.inl hpe)] at hr0
          rw [hr0]
          ((repeat ((conv => whnf); first | refine an ?_ | ((first | refine H.nwD ?_ | refine H.nw ?_); clear H; intro w _ H) | refine H.ce ?_ | refine H.db ?_ | refine ea ?_ | refine ol ?_ | (refine H.st ?_; (conv => whnf); clear H; intro w H) | refine cT ?_ | refine cF ?_ | refine cN ?_ | refine cM ?_ | refine H.lw ?_ | refine H.ll ?_)); (conv => whnf))
          exact ⟨V3, r10, r11, C, false, (hV1.trans hV2).trans hV3, H.sx, rfl, rfl⟩
        by_cases hC : C = 1
        · by_cases hk0 : k = 0
          · rw [if_pos (.inr ⟨by omega, List.eq_nil_of_length_eq_zero (by omega)⟩)] at hr0
            rw [hr0]
            ((repeat ((conv => whnf); first | refine an ?_ | ((first | refine H.nwD ?_ | refine H.nw ?_); clear H; intro w _ H) | refine H.ce ?_ | refine H.db ?_ | refine ea ?_ | refine ol ?_ | (refine H.st ?_; (conv => whnf); clear H; intro w H) | refine cT ?_ | refine cF ?_ | refine cN ?_ | refine cM ?_ | refine H.lw ?_ | refine H.ll ?_)); (conv => whnf))
            exact ⟨V3, r10, r11, C, _, (hV1.trans hV2).trans hV3, H.sx, rfl, decide_eq_false (by omega)⟩
          · rw [if_neg (by rintro (h | ⟨_, h⟩); exact h hpe; rw [h] at hyl; exact hk0 hyl.symm), if_pos hno, Int.toNat_natCast] at hr0
            rw [hr0]
            ((repeat ((conv => whnf); first | refine an ?_ | ((first | refine H.nwD ?_ | refine H.nw ?_); clear H; intro w _ H) | refine H.ce ?_ | refine H.db ?_ | refine ea ?_ | refine ol ?_ | (refine H.st ?_; (conv => whnf); clear H; intro w H) | refine cT ?_ | refine cF ?_ | refine cN ?_ | refine cM ?_ | refine H.lw ?_ | refine H.ll ?_)); (conv => whnf))
            exact ⟨V3, r10, r11, C, _, (hV1.trans hV2).trans hV3, H.sx, rfl, decide_eq_true (by omega), rfl, ⟨os, h10.up hV3, hpw3⟩, h11⟩
        · rw [if_neg (by rintro (h | ⟨h, _⟩); exact h hpe; omega), if_pos hno, Int.toNat_natCast] at hr0
          rw [hr0]
          ((repeat ((conv => whnf); first | refine an ?_ | ((first | refine H.nwD ?_ | refine H.nw ?_); clear H; intro w _ H) | refine H.ce ?_ | refine H.db ?_ | refine ea ?_ | refine ol ?_ | (refine H.st ?_; (conv => whnf); clear H; intro w H) | refine cT ?_ | refine cF ?_ | refine cN ?_ | refine cM ?_ | refine H.lw ?_ | refine H.ll ?_)); (conv => whnf))
          exact ⟨V3, r10, r11, C, true, (hV1.trans hV2).trans hV3, H.sx, rfl, rfl, rfl, ⟨os, h10.up hV3, hpw3⟩, h11⟩
      have hs1 := hs.up hV1
      have hol := hpw.len
      rw [List.length_map] at hol
      ((repeat ((conv => whnf); first | refine an ?_ | ((first | refine H.nwD ?_ | refine H.nw ?_); clear H; intro w _ H) | refine H.ce ?_ | refine H.db ?_ | refine ea ?_ | refine ol ?_ | (refine H.st ?_; (conv => whnf); clear H; intro w H) | refine cT ?_ | refine cF ?_ | refine cN ?_ | refine cM ?_ | refine H.lw ?_ | refine H.ll ?_)); (conv => whnf))
      refine (get_ref (p := p) H.data hs1 (by omega) hp).use ?_
      rintro v w ⟨rfl, K⟩
      (have hKb := K.base; replace H := H.call0 K)
      cases hn3 : numAt b p with
      | bad c' i =>
        have hc0 := numAt_ne hn3
        have hr := hbadK (c := c') (i := i) hlt hma (by rw [noteAt, hn3])
        rw [hr]
        ((repeat ((conv => whnf); first | refine an ?_ | refine H.ce ?_ | refine H.db ?_ | refine ea ?_ | refine ol ?_ | (refine H.st ?_; (conv => whnf); clear H; intro w H) | refine cT ?_ | refine cF ?_ | refine cN ?_ | refine cM ?_ | refine H.lw ?_ | refine H.ll ?_)); (conv => whnf))
        ((first | refine Rel.nwD H ?_ | refine Rel.nw H ?_); clear H; intro w b15 H)
        ((repeat ((conv => whnf); first | refine an ?_ | ((first | refine H.nwD ?_ | refine H.nw ?_); clear H; intro w _ H) | refine H.ce ?_ | refine H.db ?_ | refine ea ?_ | refine ol ?_ | (refine H.st ?_; (conv => whnf); clear H; intro w H) | refine cT ?_ | refine cF ?_ | refine cN ?_ | refine cM ?_ | refine H.lw ?_ | refine H.ll ?_)); (conv => whnf))
        exact ⟨V, ⟨none, 0, 0⟩, ⟨none, 0, 0⟩, 0, false, Sub.refl _, Rel.back H.sx, rfl, rfl⟩
      | ok pl p1 =>
        obtain ⟨j1, j2, j3, j4, j5⟩ := numAt_ok hp hn3
        ((repeat ((conv => whnf); first | refine an ?_ | refine H.ce ?_ | refine H.db ?_ | refine ea ?_ | refine ol ?_ | (refine H.st ?_; (conv => whnf); clear H; intro w H) | refine cT ?_ | refine cF ?_ | refine cN ?_ | refine cM ?_ | refine H.lw ?_ | refine H.ll ?_)); (conv => whnf))
        ((first | refine Rel.nwD H ?_ | refine Rel.nw H ?_); clear H; intro w b15 H)
        by_cases hp1 : b.length ≤ p1
        · have hr := hbadK (c := 15) (i := p1) hlt hma (by
            rw [noteAt, hn3]
            simp only
            rw [List.getElem?_eq_none (by omega)])
          rw [hr]
          ((repeat ((conv => whnf); first | refine an ?_ | ((first | refine H.nwD ?_ | refine H.nw ?_); clear H; intro w _ H) | refine H.ce ?_ | refine H.db ?_ | refine ea ?_ | refine ol ?_ | (refine H.st ?_; (conv => whnf); clear H; intro w H) | refine cT ?_ | refine cF ?_ | refine cN ?_ | refine cM ?_ | refine H.lw ?_ | refine H.ll ?_)); (conv => whnf))
          exact ⟨V, ⟨none, 0, 0⟩, ⟨none, 0, 0⟩, 0, false, Sub.refl _, Rel.back H.sx, rfl, rfl⟩
        have hx1 : b[p1]? = some b[p1] := List.getElem?_eq_getElem (by omega)
        obtain ⟨c1, c2⟩ := hs1.at1 (g := bv) (fun _ => rfl) (show p1 < b.length by omega)
        have hbyte : b[p1].toNat < 256 := UInt8.toNat_lt _
        ((repeat ((conv => whnf); first | refine an ?_ | ((first | refine H.nwD ?_ | refine H.nw ?_); clear H; intro w _ H) | refine H.ce ?_ | refine H.db ?_ | refine ea ?_ | refine ol ?_ | (refine H.st ?_; (conv => whnf); clear H; intro w H) | refine cT ?_ | refine cF ?_ | refine cN ?_ | refine cM ?_ | refine H.lw ?_ | refine H.ll ?_)); (conv => whnf))
        refine (getChunk_ref (p := p1 + 1) H.data hs1 (by omega) (by omega)).use ?_
        rintro v w ⟨V2, x, xs, n2, c, i, hV2, K, rfl, hx, hres⟩
        (have hKb := K.base; replace H := H.call0 K)
        replace c2 := hV2.cell c2
        ((repeat ((conv => whnf); first | refine an ?_ | refine H.ce ?_ | refine H.db ?_ | refine ea ?_ | refine ol ?_ | (refine H.st ?_; (conv => whnf); clear H; intro w H) | refine cT ?_ | refine cF ?_ | refine cN ?_ | refine cM ?_ | refine H.lw ?_ | refine H.ll ?_)); (conv => whnf))
        ((first | refine Rel.nwD H ?_ | refine Rel.nw H ?_); clear H; intro w b18 H)
        ((repeat ((conv => whnf); first | refine an ?_ | ((first | refine H.nwD ?_ | refine H.nw ?_); clear H; intro w _ H) | refine H.ce ?_ | refine H.db ?_ | refine ea ?_ | refine ol ?_ | (refine H.st ?_; (conv => whnf); clear H; intro w H) | refine cT ?_ | refine cF ?_ | refine cN ?_ | refine cM ?_ | refine H.lw ?_ | refine H.ll ?_)); (conv => whnf))
        cases hch : chunkAt b (p1 + 1) with
        | bad c' i' =>
          rw [hch] at hres
          obtain ⟨rfl, rfl, hc0⟩ := hres
          have hr := hbadK (c := c) (i := i) hlt hma (by
            rw [noteAt, hn3]
            simp only
            rw [hx1]
            simp only
            rw [hch])
          rw [hr]
          ((repeat ((conv => whnf); first | refine an ?_ | ((first | refine H.nwD ?_ | refine H.nw ?_); clear H; intro w _ H) | refine H.ce ?_ | refine H.db ?_ | refine ea ?_ | refine ol ?_ | (refine H.st ?_; (conv => whnf); clear H; intro w H) | refine cT ?_ | refine cF ?_ | refine cN ?_ | refine cM ?_ | refine H.lw ?_ | refine H.ll ?_)); (conv => whnf))
          exact ⟨V, ⟨none, 0, 0⟩, ⟨none, 0, 0⟩, 0, false, Sub.refl _, Rel.back H.sx, rfl, rfl⟩
        | ok d p2 =>
          rw [hch] at hres
          obtain ⟨rfl, rfl, rfl, rfl⟩ := hres
          obtain ⟨l1, l2, l3⟩ := chunkAt_ok (by omega) hch
          have hna : noteAt b p = .ok (pl, b[p1], xs) p2 := by
            rw [noteAt, hn3]
            simp only
            rw [hx1]
            simp only
            rw [hch]
          have hfd := isFD_nat (b[p1], xs)
          have hfd1 : isFD (b[p1], xs) = false → b[p1].toNat ≠ 70 ∧ b[p1].toNat ≠ 68 := fun h => ⟨fun h2 => (by rw [hfd.2 (.inl h2)] at h; cases h), fun h2 => (by rw [hfd.2 (.inr h2)] at h; cases h)⟩
          have hbadO : ¬ NoteOk M (lastOf (-1) ys) (pl, b[p1], xs) → sndRd b = none := hbadN hlt hyl hma hna
          ((repeat ((conv => whnf); first | refine an ?_ | ((first | refine H.nwD ?_ | refine H.nw ?_); clear H; intro w _ H) | refine H.ce ?_ | refine H.db ?_ | refine ea ?_ | refine ol ?_ | (refine H.st ?_; (conv => whnf); clear H; intro w H) | refine cT ?_ | refine cF ?_ | refine cN ?_ | refine cM ?_ | refine H.lw ?_ | refine H.ll ?_)); (conv => whnf))
          refine (in_ref (b[p1].toNat : Nat) 65 90 w).use ?_
          rintro q w' ⟨rfl, rfl⟩
          by_cases q1 : (65 : Int) ≤ (b[p1].toNat : Nat) ∧ ((b[p1].toNat : Nat) : Int) ≤ 90
          rotate_left
          · rw [hbadO (fun h => q1 ⟨by have := h.lo; dsimp only at this; omega, by have := h.hi; dsimp only at this; omega⟩), decide_eq_false q1]
            ((repeat ((conv => whnf); first | refine an ?_ | ((first | refine H.nwD ?_ | refine H.nw ?_); clear H; intro w _ H) | refine H.ce ?_ | refine H.db ?_ | refine ea ?_ | refine ol ?_ | (refine H.st ?_; (conv => whnf); clear H; intro w H) | refine cT ?_ | refine cF ?_ | refine cN ?_ | refine cM ?_ | refine H.lw ?_ | refine H.ll ?_)); (conv => whnf))
            exact ⟨V, ⟨none, 0, 0⟩, ⟨none, 0, 0⟩, 0, false, Sub.refl _, Rel.back H.sx, rfl, rfl⟩
          rw [decide_eq_true q1]
          by_cases q2 : b[p1].toNat = 70
          · rw [hbadO (fun h => (hfd1 h.ne).1 q2)]
            ((repeat ((conv => whnf); first | refine an ?_ | ((first | refine H.nwD ?_ | refine H.nw ?_); clear H; intro w _ H) | refine H.ce ?_ | refine H.db ?_ | refine ea ?_ | refine ol ?_ | (refine H.st ?_; (conv => whnf); clear H; intro w H) | refine cT ?_ | refine cF ?_ | refine cN ?_ | refine cM ?_ | refine H.lw ?_ | refine H.ll ?_)); (conv => whnf))
            exact ⟨V, ⟨none, 0, 0⟩, ⟨none, 0, 0⟩, 0, false, Sub.refl _, Rel.back H.sx, rfl, rfl⟩
          by_cases q3 : b[p1].toNat = 68
          · rw [hbadO (fun h => (hfd1 h.ne).2 q3)]
            ((repeat ((conv => whnf); first | refine an ?_ | ((first | refine H.nwD ?_ | refine H.nw ?_); clear H; intro w _ H) | refine H.ce ?_ | refine H.db ?_ | refine ea ?_ | refine ol ?_ | (refine H.st ?_; (conv => whnf); clear H; intro w H) | refine cT ?_ | refine cF ?_ | refine cN ?_ | refine cM ?_ | refine H.lw ?_ | refine H.ll ?_)); (conv => whnf))
            exact ⟨V, ⟨none, 0, 0⟩, ⟨none, 0, 0⟩, 0, false, Sub.refl _, Rel.back H.sx, rfl, rfl⟩
          ((repeat ((conv => whnf); first | refine an ?_ | ((first | refine H.nwD ?_ | refine H.nw ?_); clear H; intro w _ H) | refine H.ce ?_ | refine H.db ?_ | refine ea ?_ | refine ol ?_ | (refine H.st ?_; (conv => whnf); clear H; intro w H) | refine cT ?_ | refine cF ?_ | refine cN ?_ | refine cM ?_ | refine H.lw ?_ | refine H.ll ?_)); (conv => whnf))
          refine (in_ref pl 0 ((M : Int) + 1) w).use ?_
          rintro q w' ⟨rfl, rfl⟩
          by_cases q4 : 0 ≤ pl ∧ pl ≤ (M : Int) + 1
          rotate_left
          · rw [hbadO (fun h => q4 ⟨by
              have h1 := h.at1
              dsimp only at h1
              have : -1 ≤ lastOf (-1) ys := by
                rcases List.eq_nil_or_concat ys with rfl | ⟨t, y, rfl⟩
                · exact Int.le_refl _
                · simp only [List.concat_eq_append] at hno ⊢
                  rw [lastOf_snoc]
                  have := (notesOk_all hno).2 y (by simp)
                  omega
              omega, by have h2 := h.at2; dsimp only at h2; omega⟩), decide_eq_false q4]
            ((repeat ((conv => whnf); first | refine an ?_ | ((first | refine H.nwD ?_ | refine H.nw ?_); clear H; intro w _ H) | refine H.ce ?_ | refine H.db ?_ | refine ea ?_ | refine ol ?_ | (refine H.st ?_; (conv => whnf); clear H; intro w H) | refine cT ?_ | refine cF ?_ | refine cN ?_ | refine cM ?_ | refine H.lw ?_ | refine H.ll ?_)); (conv => whnf))
            exact ⟨V, ⟨none, 0, 0⟩, ⟨none, 0, 0⟩, 0, false, Sub.refl _, Rel.back H.sx, rfl, rfl⟩
          rw [decide_eq_true q4]
          have hne : isFD (b[p1], xs) = false := by
            cases h : isFD (b[p1], xs) with
            | false => rfl
            | true => rcases hfd.1 h with h | h <;> (dsimp only at h; omega)
          have hgood : lastOf (-1) ys < pl → NoteOk M (lastOf (-1) ys) (pl, b[p1], xs) := fun h => ⟨by dsimp only; omega, by dsimp only; omega, hne, h, by dsimp only; omega⟩
          by_cases hk0 : k = 0
          · subst hk0
            have hy0 : ys = [] := List.eq_nil_of_length_eq_zero hyl
            have hok := hgood (by rw [hy0]; show (-1 : Int) < pl; omega)
            ((repeat ((conv => whnf); first | refine an ?_ | ((first | refine H.nwD ?_ | refine H.nw ?_); clear H; intro w _ H) | refine H.ce ?_ | refine H.db ?_ | refine ea ?_ | refine ol ?_ | (refine H.st ?_; (conv => whnf); clear H; intro w H) | refine cT ?_ | refine cF ?_ | refine cN ?_ | refine cM ?_ | refine H.lw ?_ | refine H.ll ?_)); (conv => whnf))
            have H0 : Rel W V [.blk _ [.int .i64 (b[p1].toNat : Nat), x.v] 78, .row r10 78 2 (os.flatMap chkG), .row r11 3 1 ((ys.map (·.1)).flatMap itC), .blk b8 [iv 0, iv 0] 29] V2 w := H.pick
            refine Rel.app1_0 (f := chkG) (s := r10) (l := os) (x := (((b[p1].toNat : Nat) : Int), x)) tabOk rfl rfl rfl rfl rfl (by decide) (fun _ => rfl) (List.all_eq_true.1 rfl) H0 (by simp; omega) (by omega) ?_
            clear H H0
            intro rn10 w H
            ((repeat ((conv => whnf); first | refine an ?_ | ((first | refine H.nwD ?_ | refine H.nw ?_); clear H; intro w _ H) | refine H.ce ?_ | refine H.db ?_ | refine ea ?_ | refine ol ?_ | (refine H.st ?_; (conv => whnf); clear H; intro w H) | refine cT ?_ | refine cF ?_ | refine cN ?_ | refine cM ?_ | refine H.lw ?_ | refine H.ll ?_)); (conv => whnf))
            refine Rel.app1_1 (f := itC) (s := r11) (l := ys.map (·.1)) (x := pl) tabOk rfl rfl rfl rfl rfl (by decide) (fun _ => rfl) (List.all_eq_true.1 rfl) H (by rw [List.length_map]; simp; omega) (by rw [List.length_map]; omega) ?_
            clear H
            intro rn11 w H
            ((repeat ((conv => whnf); first | refine an ?_ | ((first | refine H.nwD ?_ | refine H.nw ?_); clear H; intro w _ H) | refine H.ce ?_ | refine H.db ?_ | refine ea ?_ | refine ol ?_ | (refine H.st ?_; (conv => whnf); clear H; intro w H) | refine cT ?_ | refine cF ?_ | refine cN ?_ | refine cM ?_ | refine H.lw ?_ | refine H.ll ?_)); (conv => whnf))
            refine ⟨(by repeat (first | exact trivial | refine ⟨rfl, ?_⟩)), (_ + 1, p2, rn10, rn11, os ++ [(((b[p1].toNat : Nat) : Int), x)], ys ++ [(pl, b[p1], xs)]), (by repeat (first | exact trivial | refine ⟨rfl, ?_⟩)), ⟨by dsimp only; omega, l2, by simp [hyl], manyAt_step hma hna, ?_, V2, hV1.trans hV2, ?_, ?_⟩, by dsimp only; omega⟩
            · dsimp only
              rw [notesOk_snoc, hno, decide_eq_true hok]
              rfl
            · dsimp only
              rw [List.map_append]
              exact (hpw.up ChkAtG.up hV2).snoc ⟨rfl, hx⟩
            · dsimp only
              rw [List.map_append]
              exact H.sx
          have hla2 := lastOf_get (a := -1) (l := ys) (by omega)
          have S11 := H.slfAt (i := 3) rfl (fun _ => rfl) (by decide)
          obtain ⟨_, e11⟩ := S11.at1 (g := iv) (fun _ => rfl) (i := k - 1) (by rw [List.length_map]; omega)
          have h11l := S11.len
          rw [List.length_map] at h11l
          have ej : ((k : Int) - 1) = ((k - 1 : Nat) : Int) := by omega
          have e11v : (ys.map (·.1))[k - 1]'(by rw [List.length_map]; omega) = lastOf (-1) ys := by
            rw [hla2, List.getElem_map]
            congr 2
            omega
          rw [e11v] at e11
          obtain ⟨la, hlaE⟩ : ∃ la, la = lastOf (-1) ys := ⟨_, rfl⟩
          rw [← hlaE] at e11 hgood hbadO
          by_cases q5 : pl ≤ la
          · rw [hbadO (fun h => by have := h.at1; dsimp only at this; omega)]
            ((repeat ((conv => whnf); first | refine an ?_ | ((first | refine H.nwD ?_ | refine H.nw ?_); clear H; intro w _ H) | refine H.ce ?_ | refine H.db ?_ | refine ea ?_ | refine ol ?_ | (refine H.st ?_; (conv => whnf); clear H; intro w H) | refine cT ?_ | refine cF ?_ | refine cN ?_ | refine cM ?_ | refine H.lw ?_ | refine H.ll ?_)); (conv => whnf))
            rw [ej]
            ((repeat ((conv => whnf); first | refine an ?_ | ((first | refine H.nwD ?_ | refine H.nw ?_); clear H; intro w _ H) | refine H.ce ?_ | refine H.db ?_ | refine ea ?_ | refine ol ?_ | (refine H.st ?_; (conv => whnf); clear H; intro w H) | refine cT ?_ | refine cF ?_ | refine cN ?_ | refine cM ?_ | refine H.lw ?_ | refine H.ll ?_)); (conv => whnf))
            exact ⟨V, ⟨none, 0, 0⟩, ⟨none, 0, 0⟩, 0, false, Sub.refl _, Rel.back H.sx, rfl, rfl⟩
          have hok := hgood (by omega)
          rw [hlaE] at hok
          ((repeat ((conv => whnf); first | refine an ?_ | ((first | refine H.nwD ?_ | refine H.nw ?_); clear H; intro w _ H) | refine H.ce ?_ | refine H.db ?_ | refine ea ?_ | refine ol ?_ | (refine H.st ?_; (conv => whnf); clear H; intro w H) | refine cT ?_ | refine cF ?_ | refine cN ?_ | refine cM ?_ | refine H.lw ?_ | refine H.ll ?_)); (conv => whnf))
          rw [ej]
          ((repeat ((conv => whnf); first | refine an ?_ | ((first | refine H.nwD ?_ | refine H.nw ?_); clear H; intro w _ H) | refine H.ce ?_ | refine H.db ?_ | refine ea ?_ | refine ol ?_ | (refine H.st ?_; (conv => whnf); clear H; intro w H) | refine cT ?_ | refine cF ?_ | refine cN ?_ | refine cM ?_ | refine H.lw ?_ | refine H.ll ?_)); (conv => whnf))
          have H0 : Rel W V [.blk _ [.int .i64 (b[p1].toNat : Nat), x.v] 78, .row r10 78 2 (os.flatMap chkG), .row r11 3 1 ((ys.map (·.1)).flatMap itC), .blk b8 [iv 0, iv 0] 29] V2 w := H.pick
          refine Rel.app1_0 (f := chkG) (s := r10) (l := os) (x := (((b[p1].toNat : Nat) : Int), x)) tabOk rfl rfl rfl rfl rfl (by decide) (fun _ => rfl) (List.all_eq_true.1 rfl) H0 (by simp; omega) (by omega) ?_
          clear H H0
          intro rn10 w H
          ((repeat ((conv => whnf); first | refine an ?_ | ((first | refine H.nwD ?_ | refine H.nw ?_); clear H; intro w _ H) | refine H.ce ?_ | refine H.db ?_ | refine ea ?_ | refine ol ?_ | (refine H.st ?_; (conv => whnf); clear H; intro w H) | refine cT ?_ | refine cF ?_ | refine cN ?_ | refine cM ?_ | refine H.lw ?_ | refine H.ll ?_)); (conv => whnf))
          refine Rel.app1_1 (f := itC) (s := r11) (l := ys.map (·.1)) (x := pl) tabOk rfl rfl rfl rfl rfl (by decide) (fun _ => rfl) (List.all_eq_true.1 rfl) H (by rw [List.length_map]; simp; omega) (by rw [List.length_map]; omega) ?_
          clear H
          intro rn11 w H
          ((repeat ((conv => whnf); first | refine an ?_ | ((first | refine H.nwD ?_ | refine H.nw ?_); clear H; intro w _ H) | refine H.ce ?_ | refine H.db ?_ | refine ea ?_ | refine ol ?_ | (refine H.st ?_; (conv => whnf); clear H; intro w H) | refine cT ?_ | refine cF ?_ | refine cN ?_ | refine cM ?_ | refine H.lw ?_ | refine H.ll ?_)); (conv => whnf))
          refine ⟨(by repeat (first | exact trivial | refine ⟨rfl, ?_⟩)), (_ + 1, p2, rn10, rn11, os ++ [(((b[p1].toNat : Nat) : Int), x)], ys ++ [(pl, b[p1], xs)]), (by repeat (first | exact trivial | refine ⟨rfl, ?_⟩)), ⟨by dsimp only; omega, l2, by simp [hyl], manyAt_step hma hna, ?_, V2, hV1.trans hV2, ?_, ?_⟩, by dsimp only; omega⟩
          · dsimp only
            rw [notesOk_snoc, hno, decide_eq_true hok]
            rfl
          · dsimp only
            rw [List.map_append]
            exact (hpw.up ChkAtG.up hV2).snoc ⟨rfl, hx⟩
          · dsimp only
            rw [List.map_append]
            exact H.sx
end
end Go.Proofs.Ytjfcpnlacodjjaa
