/-
  Files of trees, plain: what the reference does with them.
-/
import Derived.Test.YtffaffojkfalhaaGreatDoorTreR
namespace Go.Proofs.YtffaffojkfalhaaGreatDoor
open Go Go.RowKit

/-! ### the scan -/
abbrev azB (c : UInt8) : Bool := decide (97 ≤ c.toNat) && decide (c.toNat ≤ 122)
abbrev isW (word : Bool) (c : UInt8) : Bool := (isDg c || decide (c = 45)) || (word && (azB c || decide (c = 95) || decide (c = 46)))
abbrev sgB (c : UInt8) : Bool := decide (c = 91) || decide (c = 93) || decide (c = 123) || decide (c = 125) || decide (c = 44) || decide (c = 58)
def strE : List UInt8 → Option (List UInt8 × List UInt8)
  | [] => none
  | [c] => if c = 92 then none else if c = 34 then some ([34], []) else none
  | c :: d :: r => if c = 92 then (strE r).map fun x => (92 :: d :: x.1, x.2) else if c = 34 then some ([34], d :: r) else (strE (d :: r)).map fun x => (c :: x.1, x.2)
def tkE : List UInt8 → Option (List UInt8 × List UInt8)
  | [] => none
  | c :: r => if sgB c = true then some ([c], r) else if c = 34 then (strE r).map fun x => (34 :: x.1, x.2) else
    if (c :: r).takeWhile (isW (azB c)) = [] then none else some ((c :: r).takeWhile (isW (azB c)), (c :: r).dropWhile (isW (azB c)))
def scP : Nat → List UInt8 → Option (BL × List UInt8)
  | 0, _ => none
  | n + 1, l => if l.dropWhile bkB = [] then some ([], l) else match tkE (l.dropWhile bkB) with
    | none => none
    | some (t, r) => (scP n r).map fun x => ((l.takeWhile bkB, t) :: x.1, x.2)
theorem tkE_cons (c : UInt8) (r : List UInt8) : tkE (c :: r) = if sgB c = true then some ([c], r) else if c = 34 then (strE r).map fun x => (34 :: x.1, x.2) else
    if (c :: r).takeWhile (isW (azB c)) = [] then none else some ((c :: r).takeWhile (isW (azB c)), (c :: r).dropWhile (isW (azB c))) := rfl
theorem strE_some : ∀ {l x t : List UInt8}, strE l = some (x, t) → l = x ++ t
  | [], x, t, h => by simp [strE] at h
  | [c], x, t, h => by
    unfold strE at h
    split at h
    · cases h
    · split at h
      · rename_i hc
        cases h
        rw [hc]
        rfl
      · cases h
  | c :: d :: r, x, t, h => by
    unfold strE at h
    split at h
    · rename_i hc
      obtain ⟨y, hy, h⟩ := Option.map_eq_some_iff.1 h
      cases h
      rw [hc, strE_some hy]
      rfl
    · split at h
      · rename_i hc
        cases h
        rw [hc]
        rfl
      · obtain ⟨y, hy, h⟩ := Option.map_eq_some_iff.1 h
        cases h
        rw [strE_some hy]
        rfl
theorem tkE_some {l x t : List UInt8} (h : tkE l = some (x, t)) : l = x ++ t ∧ x ≠ [] := by
  cases l with
  | nil => simp [tkE] at h
  | cons c r =>
    rw [tkE_cons] at h
    split at h
    · cases h; exact ⟨rfl, by simp⟩
    · split at h
      · rename_i hc
        obtain ⟨y, hy, h⟩ := Option.map_eq_some_iff.1 h
        cases h
        rw [hc, strE_some hy]
        exact ⟨rfl, by simp⟩
      · split at h
        · cases h
        · rename_i hne
          cases h
          exact ⟨by rw [List.takeWhile_append_dropWhile], hne⟩
theorem scP_some : ∀ {n : Nat} {l : List UInt8} {L : BL} {lb : List UInt8}, scP n l = some (L, lb) → l = flatB L ++ lb ∧ BksL L ∧ Bks lb
  | 0, l, L, lb, h => by simp [scP] at h
  | n + 1, l, L, lb, h => by
    rw [scP] at h
    split at h
    · rename_i h0
      cases h
      exact ⟨rfl, fun p hp => by simp at hp, (dropWhile_nil h0).1⟩
    · split at h
      · cases h
      · rename_i t r ht
        obtain ⟨x, hx, h⟩ := Option.map_eq_some_iff.1 h
        obtain ⟨M, mb⟩ := x
        cases h
        obtain ⟨h1, h2, h3⟩ := scP_some hx
        refine ⟨?_, ?_, h3⟩
        · rw [flatB_cons]
          conv => lhs; rw [← List.takeWhile_append_dropWhile (p := bkB) (l := l), (tkE_some ht).1, h1]
          simp [List.append_assoc]
        · intro p hp
          rcases List.mem_cons.1 hp with rfl | hp
          · exact takeWhile_all
          · exact h2 p hp
/-- tokens that a scan finds again -/
def TkOk (t : Tok) (ts : List Tok) : Prop := (∃ c, t = [c] ∧ sgB c = true) ∨ (∃ b, t = quoT b) ∨ ((∃ c r, t = c :: r ∧ sgB c = false ∧ c ≠ 34 ∧ ∀ x ∈ t, isW (azB c) x = true) ∧ (ts = [] ∨ ∃ c r, ts = [c] :: r ∧ sgB c = true))
def GT : List Tok → Prop
  | [] => True
  | t :: ts => TkOk t ts ∧ GT ts
theorem GT.append : ∀ {a b : List Tok}, GT a → GT b → (b = [] ∨ ∃ c r, b = [c] :: r ∧ sgB c = true) → GT (a ++ b)
  | [], b, _, hb, _ => hb
  | t :: a, b, ha, hb, h => by
    refine ⟨?_, GT.append ha.2 hb h⟩
    rcases ha.1 with h1 | h1 | ⟨h1, h2⟩
    · exact .inl h1
    · exact .inr (.inl h1)
    · refine .inr (.inr ⟨h1, ?_⟩)
      rcases h2 with rfl | ⟨c, r, rfl, hc⟩
      · exact h
      · exact .inr ⟨c, r ++ b, rfl, hc⟩
theorem sg_ok {c : UInt8} (h : sgB c = true) (ts : List Tok) : TkOk [c] ts := .inl ⟨c, rfl, h⟩
theorem w_nm {c : UInt8} (h : nmB c = true) : isW true c = true := by
  simp only [nmB, okN] at h
  simp only [isW, isDg, azB]
  simp at h ⊢
  have e1 : c = 45 ↔ c.toNat = 45 := ⟨fun h => by rw [h]; rfl, fun h => UInt8.toNat_inj.1 h⟩
  have e2 : c = 95 ↔ c.toNat = 95 := ⟨fun h => by rw [h]; rfl, fun h => UInt8.toNat_inj.1 h⟩
  have e3 : c = 46 ↔ c.toNat = 46 := ⟨fun h => by rw [h]; rfl, fun h => UInt8.toNat_inj.1 h⟩
  rw [e1, e2, e3]
  omega
theorem sgB_cases {c : UInt8} (h : sgB c = true) : c = 91 ∨ c = 93 ∨ c = 123 ∨ c = 125 ∨ c = 44 ∨ c = 58 := by
  simpa [sgB, or_assoc] using h
theorem sg_w {c : UInt8} (h : sgB c = true) (w : Bool) : isW w c = false := by
  rcases sgB_cases h with rfl | rfl | rfl | rfl | rfl | rfl <;> cases w <;> decide
theorem bk_w {c : UInt8} (h : bkB c = true) (w : Bool) : isW w c = false := by
  rcases bk_cases h with rfl | rfl | rfl | rfl <;> cases w <;> decide
theorem sg_bk {c : UInt8} (h : sgB c = true) : bkB c = false := by
  rcases sgB_cases h with rfl | rfl | rfl | rfl | rfl | rfl <;> decide
theorem name_ok {x : Tok} (h : nameOk x = true) (ts : List Tok) (hts : ∃ c r, ts = [c] :: r ∧ sgB c = true) : TkOk x ts := by
  obtain ⟨c, r, hc, h1, h2⟩ := nameOk_head h
  have hs : sgB c = false := by
    cases e : sgB c with
    | false => rfl
    | true => rcases sgB_cases e with rfl | rfl | rfl | rfl | rfl | rfl <;> exact absurd h1 (by decide)
  have haz : azB c = true := by simp [azB, h1]
  exact .inr (.inr ⟨⟨c, r, hc, hs, by rintro rfl; exact absurd h1 (by decide), fun y hy => by rw [haz]; exact w_nm (h2 y hy)⟩, .inr hts⟩)
theorem num_ok (v : Int) : TkOk (Lib.itoa v) [] := by
  obtain ⟨c, r, hc, h1, h2⟩ := itoa_ne v
  have hh : c.toNat = 45 ∨ (48 ≤ c.toNat ∧ c.toNat ≤ 57) := by
    rcases h1 with rfl | h1
    · exact .inl rfl
    · simp only [isDg, Bool.and_eq_true, decide_eq_true_eq] at h1
      exact .inr h1
  have hs : sgB c = false := by
    cases e : sgB c with
    | false => rfl
    | true => rcases sgB_cases e with rfl | rfl | rfl | rfl | rfl | rfl <;> exact absurd hh (by decide)
  refine .inr (.inr ⟨⟨c, r, hc, hs, by rintro rfl; exact absurd hh (by decide), fun x hx => ?_⟩, .inl rfl⟩)
  rw [hc] at hx
  rcases List.mem_cons.1 hx with rfl | hx
  · rcases h1 with rfl | h1
    · simp [isW]
    · simp [isW, h1]
  · simp [isW, h2 x hx]
theorem tokR_head (k : Int) (s : List (List UInt8)) (i : Nat) (hi : i ≠ 0) (ps : List Val) : tokR k s i ps = [] ∨ ∃ c r, tokR k s i ps = [c] :: r ∧ sgB c = true := by
  cases ps with
  | nil => exact .inl rfl
  | cons p ps =>
    rw [tokR_cons]
    unfold tokE
    rw [if_neg hi]
    exact .inr ⟨44, _, rfl, by decide⟩
theorem tokR_ok {k : Int} {s : List (List UInt8)} (hs : k = 4 → ∀ x ∈ s, nameOk x = true) : ∀ (ps : List Val) (i : Nat), (∀ p ∈ ps, GT (tokV p)) → (k = 4 → i + ps.length ≤ s.length) → GT (tokR k s i ps)
  | [], i, _, _ => trivial
  | p :: ps, i, h, hl => by
    rw [tokR_cons]
    refine GT.append ?_ (tokR_ok hs ps (i + 1) (fun q hq => h q (by simp [hq])) (fun hk => by have := hl hk; simp only [List.length_cons] at this; omega)) (tokR_head k s (i + 1) (by omega) ps)
    have hp := h p (by simp)
    have h2 : GT ((if k = 4 then [s.getD i [], [58]] else []) ++ tokV p) := by
      split
      · rename_i hk
        have := hl hk
        simp only [List.length_cons] at this
        have hlt : i < s.length := by omega
        have e : s.getD i [] = s[i] := by simp [List.getD, hlt]
        rw [e]
        exact ⟨name_ok (hs hk _ (List.getElem_mem hlt)) _ ⟨58, _, rfl, by decide⟩, sg_ok (by decide) _, hp⟩
      · exact hp
    unfold tokE
    split
    · exact h2
    · exact ⟨sg_ok (by decide) _, h2⟩
theorem GT_tokV {v : Val} (hv : WfV v) : GT (tokV v) := by
  induction hv with
  | num h => rw [tokV_num]; exact ⟨num_ok _, trivial⟩
  | byt b => rw [tokV_byt]; exact ⟨.inr (.inl ⟨b, rfl⟩), trivial⟩
  | @lst ps h ih =>
    rw [tokV_lst]
    exact ⟨sg_ok (by decide) _, GT.append (tokR_ok (k := 3) (fun h => absurd h (by decide)) ps 0 ih (fun h => absurd h (by decide))) ⟨sg_ok (by decide) _, trivial⟩ (.inr ⟨93, [], rfl, by decide⟩)⟩
  | @rcd s ps hs hl h ih =>
    rw [tokV_rcd]
    exact ⟨sg_ok (by decide) _, GT.append (tokR_ok (k := 4) (fun _ => hs) ps 0 ih (fun _ => by omega)) ⟨sg_ok (by decide) _, trivial⟩ (.inr ⟨125, [], rfl, by decide⟩)⟩
theorem strE_of : ∀ (b : List UInt8) (t : List UInt8), strE (quoL b ++ 34 :: t) = some (quoL b ++ [34], t)
  | [], t => by cases t <;> rfl
  | c :: b, t => by
    have e : quoL (c :: b) = quoB c ++ quoL b := by simp [quoL]
    have ih := strE_of b t
    obtain ⟨x, r, hx⟩ : ∃ x r, quoL b ++ 34 :: t = x :: r := by cases quoL b <;> exact ⟨_, _, rfl⟩
    rw [e, List.append_assoc, List.append_assoc]
    rw [hx] at ih ⊢
    by_cases h1 : c = 34 ∨ c = 92
    · rw [quoB_esc h1]
      simp only [List.cons_append, List.nil_append]
      rw [strE, if_pos rfl, ih]
      rfl
    · by_cases h2 : spcB c = true
      · have hd : ∀ n : Fin 16, hexD n.val ≠ 34 ∧ hexD n.val ≠ 92 := by decide
        have hlt := c.toNat_lt
        have d1 := hd ⟨c.toNat / 16, by omega⟩
        have d2 := hd ⟨c.toNat % 16, by omega⟩
        rw [quoB_spc h2]
        simp only [List.cons_append, List.nil_append]
        rw [strE, if_pos rfl, strE, if_neg d1.2, if_neg d1.1, strE, if_neg d2.2, if_neg d2.1, ih]
        rfl
      · rw [quoB_plain h1 (by simpa using h2)]
        simp only [List.cons_append, List.nil_append]
        rw [strE, if_neg (fun h => h1 (.inr h)), if_neg (fun h => h1 (.inl h)), ih]
        rfl
theorem tkE_of {t : Tok} {ts : List Tok} (h : TkOk t ts) {r : List UInt8} (hr : ts = [] ∨ (∃ c x, ts = [c] :: x ∧ sgB c = true) → ∀ w, nst (isW w) r) : tkE (t ++ r) = some (t, r) := by
  rcases h with ⟨c, rfl, hc⟩ | ⟨b, rfl⟩ | ⟨⟨c, x, rfl, hc, h34, hw⟩, hts⟩
  · rw [List.singleton_append, tkE_cons, if_pos hc]
  · unfold quoT
    simp only [List.cons_append, List.append_assoc, List.nil_append]
    rw [tkE_cons, if_neg (by decide), if_pos rfl, strE_of]
    rfl
  · obtain ⟨h1, h2⟩ := takeWhile_stop hw (hr hts (azB c))
    rw [List.cons_append] at h1 h2 ⊢
    rw [tkE_cons, if_neg (by simp [hc]), if_neg h34, h1, h2, if_neg (by simp)]
theorem scP_of : ∀ {L : BL} {n : Nat} {lb : List UInt8}, GT (L.map Prod.snd) → (∀ p ∈ L, ∃ c r, p.2 = c :: r ∧ bkB c = false) → BksL L → Bks lb → (flatB L ++ lb).length < n → scP n (flatB L ++ lb) = some (L, lb)
  | [], 0, lb, _, _, _, _, hn => by omega
  | [], n + 1, lb, _, _, _, hlb, _ => by
    have : lb.dropWhile bkB = [] := by simpa using (takeWhile_stop (p := bkB) hlb (t := []) (fun c r e => by cases e)).2
    rw [show flatB [] ++ lb = lb from rfl, scP, if_pos this]
  | p :: L, 0, lb, _, _, _, _, hn => by omega
  | p :: L, n + 1, lb, hg, hne, hb, hlb, hn => by
    obtain ⟨b, t⟩ := p
    obtain ⟨c, x, hc, hcb⟩ := hne (b, t) (by simp)
    dsimp only at hc
    have hg' : TkOk t (L.map Prod.snd) ∧ GT (L.map Prod.snd) := hg
    have e : flatB ((b, t) :: L) ++ lb = b ++ c :: (x ++ (flatB L ++ lb)) := by rw [flatB_cons, hc]; simp
    obtain ⟨h1, h2⟩ := bks_split hb.head hcb (x ++ (flatB L ++ lb))
    have h3 : (flatB ((b, t) :: L) ++ lb).dropWhile bkB = t ++ (flatB L ++ lb) := by rw [e, h2, hc]; rfl
    have h4 : (flatB ((b, t) :: L) ++ lb).takeWhile bkB = b := by rw [e, h1]
    have hstop : L.map Prod.snd = [] ∨ (∃ c x, L.map Prod.snd = [c] :: x ∧ sgB c = true) → ∀ w, nst (isW w) (flatB L ++ lb) := by
      rintro (h | ⟨c, x, h, hs⟩) w
      · obtain rfl : L = [] := List.map_eq_nil_iff.1 h
        intro y r hy
        have hy : lb = y :: r := hy
        exact bk_w (hlb y (by rw [hy]; simp)) w
      · obtain ⟨b', M, rfl, _⟩ := map_cons_inv h
        rw [flatB_cons]
        have : b' ++ ([c] ++ flatB M) ++ lb = b' ++ c :: (flatB M ++ lb) := by simp
        rw [this]
        exact nst_bc (fun _ h => bk_w h w) hb.tail.head (sg_w hs w) _
    have hlen := congrArg List.length e
    simp only [List.length_append, List.length_cons] at hlen hn
    rw [scP, if_neg (by rw [h3, hc]; simp), h3, tkE_of hg'.1 hstop]
    simp only
    rw [scP_of hg'.2 (fun q hq => hne q (by simp [hq])) hb.tail hlb (by rw [List.length_append]; omega), h4]
    rfl
theorem Fit.scan {l : List UInt8} {v : Val} {L : BL} {lb : List UInt8} (h : Fit l v L lb) {n : Nat} (hn : l.length < n) : scP n l = some (L, lb) := by
  rw [h.eq] at hn ⊢
  exact scP_of (by rw [h.tk]; exact GT_tokV h.wf) (fun p hp => tok_ne h.wf (by rw [← h.tk]; exact List.mem_map.2 ⟨p, hp, rfl⟩)) h.bk h.bl hn

/-! ### strings -/
def hexC (h l : UInt8) : List UInt8 := match hexN h, hexN l with
  | some a, some b => [UInt8.ofNat (16 * a + b)]
  | _, _ => []
def unq1 : List UInt8 → List UInt8 × List UInt8
  | c :: d :: r => if c ≠ 92 then ([c], d :: r) else if d ≠ 120 then ([d], r) else (match r with
    | h :: l :: e :: r' => (hexC h l, e :: r')
    | _ => ([], []))
  | _ => ([], [])
theorem unq1_cons (c d : UInt8) (r : List UInt8) : unq1 (c :: d :: r) = if c ≠ 92 then ([c], d :: r) else if d ≠ 120 then ([d], r) else (match r with
    | h :: l :: e :: r' => (hexC h l, e :: r')
    | _ => ([], [])) := rfl
theorem unq1_len {l : List UInt8} (h : ¬ l.length < 2) : (unq1 l).2.length < l.length := by
  match l, h with
  | [], h => exact absurd (by decide) h
  | [_], h => exact absurd (by simp) h
  | c :: d :: r, _ =>
    rw [unq1_cons]
    split
    · simp
    · split
      · simp only [List.length_cons]; omega
      · split
        · simp only [List.length_cons]; omega
        · simp
def unqR (l : List UInt8) : List UInt8 := if h : l.length < 2 then [] else (unq1 l).1 ++ unqR (unq1 l).2
termination_by l.length
decreasing_by exact unq1_len h
theorem unqR_end (c : UInt8) : unqR [c] = [] := by rw [unqR, dif_pos (by simp)]
theorem unqR_step (c d : UInt8) (r : List UInt8) : unqR (c :: d :: r) = (unq1 (c :: d :: r)).1 ++ unqR (unq1 (c :: d :: r)).2 := by rw [unqR, dif_neg (by simp)]
theorem unqR_plain {c d : UInt8} {r : List UInt8} (h : c ≠ 92) : unqR (c :: d :: r) = c :: unqR (d :: r) := by rw [unqR_step, unq1_cons, if_pos h]; rfl
theorem unqR_esc {d : UInt8} {r : List UInt8} (h : d ≠ 120) : unqR (92 :: d :: r) = d :: unqR r := by rw [unqR_step, unq1_cons, if_neg (by decide), if_pos h]; rfl
theorem unqR_hex {h l e : UInt8} {r : List UInt8} : unqR (92 :: 120 :: h :: l :: e :: r) = hexC h l ++ unqR (e :: r) := by rw [unqR_step, unq1_cons, if_neg (by decide), if_neg (by decide)]
theorem unqR_of : ∀ (b : List UInt8), unqR (quoL b ++ [34]) = b
  | [] => unqR_end 34
  | c :: b => by
    have e : quoL (c :: b) = quoB c ++ quoL b := by simp [quoL]
    have ih := unqR_of b
    obtain ⟨x, r, hx⟩ : ∃ x r, quoL b ++ [34] = x :: r := by cases quoL b <;> exact ⟨_, _, rfl⟩
    rw [e, List.append_assoc]
    rw [hx] at ih ⊢
    by_cases h1 : c = 34 ∨ c = 92
    · rw [quoB_esc h1]
      simp only [List.cons_append, List.nil_append]
      rw [unqR_esc (by rintro rfl; exact absurd h1 (by decide)), ih]
    · by_cases h2 : spcB c = true
      · have hlt := c.toNat_lt
        rw [quoB_spc h2]
        simp only [List.cons_append, List.nil_append]
        rw [unqR_hex, ih]
        unfold hexC
        rw [hexN_hexD (show c.toNat / 16 < 16 by omega), hexN_hexD (show c.toNat % 16 < 16 by omega)]
        simp only [List.singleton_append, List.cons.injEq, and_true]
        apply UInt8.toNat_inj.1
        rw [UInt8.toNat_ofNat']
        omega
      · rw [quoB_plain h1 (by simpa using h2)]
        simp only [List.cons_append, List.nil_append]
        rw [unqR_plain (fun h => h1 (.inr h)), ih]
def unqT (s : Tok) : Option (List UInt8) := if quoT (unqR s.tail) = s then some (unqR s.tail) else none
theorem unqT_of (b : List UInt8) : unqT (quoT b) = some b := by
  unfold unqT
  have : unqR (quoT b).tail = b := unqR_of b
  rw [this, if_pos rfl]
theorem unqT_some {s : Tok} {b : List UInt8} (h : unqT s = some b) : s = quoT b := by
  unfold unqT at h
  split at h
  · rename_i he
    cases h
    exact he.symm
  · cases h

/-! ### values out of tokens -/
abbrev VaF := List Tok → Option (Val × List Tok)
abbrev VL := List (List UInt8) × List Val × List Tok
def vaE (f : VaF) (k : Int) (ns : List (List UInt8)) (ts : List Tok) : Option (List (List UInt8) × Val × List Tok) :=
  if k = 4 then match ts with
    | nm :: c :: r => if nameOk nm = true ∧ c = [58] then (match f r with
      | none => none
      | some (v, r') => some (ns ++ [nm], v, r')) else none
    | _ => none
  else match f ts with
    | none => none
    | some (v, r') => some (ns, v, r')
def vaQ (f : VaF) (k : Int) : Nat → VL → Option VL
  | 0, _ => none
  | m + 1, x => match vaE f k x.1 x.2.2 with
    | none => none
    | some (ns, v, q) => match q with
      | [] => none
      | u :: q' => if u = enT k then some (ns, x.2.1 ++ [v], q') else if u = [44] then vaQ f k m (ns, x.2.1 ++ [v], q') else none
def vaB (f : VaF) (k : Int) (ts : List Tok) : Option VL := match ts with
  | [] => none
  | t :: r => if t = enT k then some ([], [], r) else vaQ f k ((t :: r).length + 1) ([], [], t :: r)
def vaV : Nat → VaF
  | 0, _ => none
  | _ + 1, [] => none
  | n + 1, s :: ts => if s.head? = some 34 then (match unqT s with
      | none => none
      | some b => some (.mk 2 0 b [] [], ts))
    else if s = [91] then (vaB (vaV n) 3 ts).map fun x => (.mk 3 0 [] x.1 x.2.1, x.2.2)
    else if s = [123] then (vaB (vaV n) 4 ts).map fun x => (.mk 4 0 [] x.1 x.2.1, x.2.2)
    else match trNum s with
      | none => none
      | some v => some (.mk 1 v [] [] [], ts)
def VaOk (f : VaF) : Prop := ∀ ts v r, f ts = some (v, r) → ts = tokV v ++ r ∧ WfV v
theorem vaE_some {f : VaF} (hf : VaOk f) {k : Int} {ns ns' : List (List UInt8)} {ts q : List Tok} {v : Val} (h : vaE f k ns ts = some (ns', v, q)) :
    ∃ nm, ns' = (if k = 4 then ns ++ [nm] else ns) ∧ (k = 4 → nameOk nm = true) ∧ ts = (if k = 4 then [nm, [58]] else []) ++ (tokV v ++ q) ∧ WfV v := by
  unfold vaE at h
  split at h
  · rename_i hk
    split at h
    · rename_i nm c r
      split at h
      · rename_i hc
        split at h
        · cases h
        · rename_i v' r' hv
          cases h
          obtain ⟨h1, h2⟩ := hf _ _ _ hv
          exact ⟨nm, by rw [if_pos hk], fun _ => hc.1, by rw [if_pos hk, hc.2, h1]; rfl, h2⟩
      · cases h
    · cases h
  · rename_i hk
    split at h
    · cases h
    · rename_i v' r' hv
      cases h
      obtain ⟨h1, h2⟩ := hf _ _ _ hv
      exact ⟨[], by rw [if_neg hk], fun h => absurd h hk, by rw [if_neg hk]; exact h1, h2⟩
theorem tokE_at {k : Int} {ns : List (List UInt8)} {nm : List UInt8} {x : List (List UInt8)} {i : Nat} (hi : k = 4 → ns.length = i) (v : Val) : tokE k (if k = 4 then (ns ++ [nm]) ++ x else []) i v = (if i = 0 then [] else [[44]]) ++ ((if k = 4 then [nm, [58]] else []) ++ tokV v) := by
  unfold tokE
  by_cases hk : k = 4
  · have : ((ns ++ [nm]) ++ x).getD i [] = nm := by
      rw [← hi hk]
      simp [List.getD]
    rw [if_pos hk, if_pos hk, if_pos hk, this]
  · rw [if_neg hk, if_neg hk]
theorem vaQ_some {f : VaF} (hf : VaOk f) {k : Int} : ∀ {m : Nat} {ns : List (List UInt8)} {ps : List Val} {ts : List Tok} {y : VL}, vaQ f k m (ns, ps, ts) = some y → (k = 4 → ns.length = ps.length) → (k ≠ 4 → ns = []) →
    ∃ nm rs, y.1 = ns ++ nm ∧ y.2.1 = ps ++ rs ∧ (∀ x ∈ nm, nameOk x = true) ∧ (k = 4 → nm.length = rs.length) ∧ (k ≠ 4 → nm = []) ∧ (∀ p ∈ rs, WfV p) ∧ (if ps.length = 0 then [] else [[44]]) ++ ts = tokR k (ns ++ nm) ps.length rs ++ (enT k :: y.2.2)
  | 0, ns, ps, ts, y, h, _, _ => by simp [vaQ] at h
  | m + 1, ns, ps, ts, y, h, hl, hz => by
    rw [vaQ] at h
    split at h
    · cases h
    · rename_i ns' v q hv
      obtain ⟨nm, e1, e2, e3, e4⟩ := vaE_some hf hv
      dsimp only at e1 e3
      have hns : ∀ x, (if k = 4 then (ns ++ [nm]) ++ x else []) = (if k = 4 then ns' ++ x else []) := fun x => by
        by_cases hk : k = 4
        · rw [if_pos hk, if_pos hk, e1, if_pos hk]
        · rw [if_neg hk, if_neg hk]
      split at h
      · cases h
      · rename_i u q'
        split at h
        · rename_i hu
          cases h
          refine ⟨if k = 4 then [nm] else [], [v], ?_, rfl, ?_, fun hk => by rw [if_pos hk]; rfl, fun hk => by rw [if_neg hk], by simpa using e4, ?_⟩
          · dsimp only
            rw [e1]
            split <;> simp
          · intro x hx
            split at hx
            · rename_i hk
              simp only [List.mem_singleton] at hx
              rw [hx]
              exact e2 hk
            · simp at hx
          · have h1 := tokE_at (k := k) (ns := ns) (nm := nm) (x := []) (i := ps.length) hl v
            have h2 : ns ++ (if k = 4 then [nm] else []) = (if k = 4 then (ns ++ [nm]) ++ [] else []) := by
              by_cases hk : k = 4
              · rw [if_pos hk, if_pos hk, List.append_nil]
              · rw [if_neg hk, if_neg hk, hz hk, List.append_nil]
            rw [tokR_cons, h2, h1, e3, hu]
            simp [tokR, List.append_assoc]
        · split at h
          · rename_i hne hu
            obtain ⟨nm2, rs, g1, g2, g3, g4, g5, g6, g7⟩ := vaQ_some hf h (fun hk => by rw [e1, if_pos hk]; have := hl hk; simp; omega) (fun hk => by rw [e1, if_neg hk]; exact hz hk)
            refine ⟨(if k = 4 then [nm] else []) ++ nm2, v :: rs, ?_, by rw [g2]; simp, ?_, fun hk => by have := g4 hk; rw [if_pos hk]; simp; omega, fun hk => by rw [if_neg hk, g5 hk]; rfl, ?_, ?_⟩
            · rw [g1, e1]
              split <;> simp
            · intro x hx
              rcases List.mem_append.1 hx with hx | hx
              · split at hx
                · rename_i hk
                  simp only [List.mem_singleton] at hx
                  rw [hx]
                  exact e2 hk
                · simp at hx
              · exact g3 x hx
            · intro x hx
              rcases List.mem_cons.1 hx with rfl | hx
              · exact e4
              · exact g6 x hx
            · have h1 := tokE_at (k := k) (ns := ns) (nm := nm) (x := nm2) (i := ps.length) hl v
              have h2 : ns ++ ((if k = 4 then [nm] else []) ++ nm2) = (if k = 4 then (ns ++ [nm]) ++ nm2 else []) := by
                by_cases hk : k = 4
                · rw [if_pos hk, if_pos hk, List.append_assoc]
                · rw [if_neg hk, if_neg hk, hz hk, g5 hk]; rfl
              have h3 : (if k = 4 then (ns ++ [nm]) ++ nm2 else []) = ns' ++ nm2 := by
                rw [hns]
                by_cases hk : k = 4
                · rw [if_pos hk]
                · rw [if_neg hk, g5 hk, e1, if_neg hk, hz hk]; rfl
              rw [if_neg (by simp), List.length_append, List.length_singleton] at g7
              rw [tokR_cons, h2, h1, h3, List.append_assoc, ← g7, e3, hu]
              simp [List.append_assoc]
          · cases h
theorem vaB_some {f : VaF} (hf : VaOk f) {k : Int} {ts : List Tok} {y : VL} (h : vaB f k ts = some y) :
    ts = tokL k y.1 y.2.1 ++ (enT k :: y.2.2) ∧ (∀ x ∈ y.1, nameOk x = true) ∧ (k = 4 → y.1.length = y.2.1.length) ∧ (k ≠ 4 → y.1 = []) ∧ (∀ p ∈ y.2.1, WfV p) := by
  unfold vaB at h
  split at h
  · cases h
  · rename_i t r
    split at h
    · rename_i ht
      cases h
      exact ⟨by rw [ht]; rfl, by simp, fun _ => rfl, fun _ => rfl, by simp⟩
    · obtain ⟨nm, rs, g1, g2, g3, g4, g5, g6, g7⟩ := vaQ_some hf h (fun _ => rfl) (fun _ => rfl)
      simp only [List.nil_append] at g1 g2 g7
      rw [g1, g2]
      exact ⟨by simpa [tokL, tokR] using g7, g3, g4, g5, g6⟩
theorem vaV_ok : ∀ (n : Nat), VaOk (vaV n)
  | 0 => fun ts v r h => by simp [vaV] at h
  | n + 1 => fun ts v r h => by
    have ih := vaV_ok n
    cases ts with
    | nil => simp [vaV] at h
    | cons s ts =>
      rw [vaV] at h
      split at h
      · split at h
        · cases h
        · rename_i b hb
          cases h
          exact ⟨by rw [tokV_byt, unqT_some hb]; rfl, .byt b⟩
      · split at h
        · rename_i hs
          obtain ⟨x, hx, h⟩ := Option.map_eq_some_iff.1 h
          obtain ⟨ns, ps, q⟩ := x
          cases h
          obtain ⟨h1, h2, h3, h4, h5⟩ := vaB_some ih hx
          obtain rfl : ns = [] := h4 (by decide)
          exact ⟨by rw [tokV_lst, hs, h1]; simp, .lst h5⟩
        · split at h
          · rename_i hs
            obtain ⟨x, hx, h⟩ := Option.map_eq_some_iff.1 h
            obtain ⟨ns, ps, q⟩ := x
            cases h
            obtain ⟨h1, h2, h3, h4, h5⟩ := vaB_some ih hx
            exact ⟨by rw [tokV_rcd, hs, h1]; simp, .rcd h2 (h3 rfl) h5⟩
          · split at h
            · cases h
            · rename_i u hu
              cases h
              obtain ⟨h1, h2⟩ := trNum_some hu
              exact ⟨by rw [tokV_num, h1]; rfl, .num h2⟩
def CanVa (f : VaF) (v : Val) : Prop := ∀ r, f (tokV v ++ r) = some (v, r)
theorem vaQ_of {f : VaF} {k : Int} {ns : List (List UInt8)} (hns : k = 4 → ∀ x ∈ ns, nameOk x = true) (hz : k ≠ 4 → ns = []) (r : List Tok) : ∀ (rs : List Val) (qs : List Val) (m : Nat) (ts : List Tok), rs ≠ [] → (∀ p ∈ rs, CanVa f p) → (k = 4 → qs.length + rs.length = ns.length) →
    (if qs.length = 0 then [] else [[44]]) ++ ts = tokR k ns qs.length rs ++ (enT k :: r) → ts.length < m → vaQ f k m (ns.take qs.length, qs, ts) = some (ns, qs ++ rs, r)
  | [], _, _, _, h, _, _, _, _ => absurd rfl h
  | p :: rs, qs, 0, ts, _, _, _, _, hm => by omega
  | p :: rs, qs, m + 1, ts, _, hp, hl, hts, hm => by
    rw [tokR_cons] at hts
    unfold tokE at hts
    rw [List.append_assoc, List.append_assoc, List.append_assoc] at hts
    have hts := List.append_cancel_left hts
    have hpv := hp p (by simp)
    have hE : vaE f k (ns.take qs.length) ts = some (ns.take (qs ++ [p]).length, p, tokR k ns (qs.length + 1) rs ++ (enT k :: r)) := by
      unfold vaE
      by_cases hk : k = 4
      · have := hl hk
        simp only [List.length_cons] at this
        have hlt : qs.length < ns.length := by omega
        have e : ns.getD qs.length [] = ns[qs.length] := by simp [List.getD, hlt]
        rw [if_pos hk, e] at hts
        rw [if_pos hk, hts]
        simp only [List.cons_append, List.nil_append]
        rw [if_pos ⟨hns hk _ (List.getElem_mem hlt), trivial⟩, hpv]
        simp only
        rw [List.length_append, List.length_singleton, List.take_succ_eq_append_getElem hlt]
      · rw [if_neg hk] at hts
        rw [if_neg hk, hts, List.nil_append, hpv]
        simp only
        rw [hz hk]
        simp
    rw [vaQ]
    simp only
    rw [hE]
    simp only
    cases rs with
    | nil =>
      simp only [tokR, List.zipIdx_nil, List.flatMap_nil, List.nil_append]
      rw [if_pos trivial]
      have e1 : ns.take (qs ++ [p]).length = ns := by
        by_cases hk : k = 4
        · have := hl hk
          rw [List.take_of_length_le (by simp at *; omega)]
        · rw [hz hk]; simp
      rw [e1]
    | cons p' rs =>
      have e2 : ∃ q', tokR k ns (qs.length + 1) (p' :: rs) ++ (enT k :: r) = [44] :: q' := by
        rw [tokR_cons]
        unfold tokE
        rw [if_neg (by omega)]
        exact ⟨_, rfl⟩
      obtain ⟨q', hq⟩ := e2
      have hne : ([44] : Tok) ≠ enT k := by
        intro h
        simp only [List.cons.injEq, and_true] at h
        split at h <;> exact absurd h (by decide)
      have hlen := congrArg List.length hts
      rw [hq] at hlen ⊢
      simp only
      rw [if_neg hne, if_pos trivial]
      have h1 : 1 ≤ (tokV p).length := by
        cases h : tokV p with
        | nil => exact absurd h (tokV_ne p)
        | cons t x => simp
      simp only [List.length_append, List.length_cons] at hlen
      have := vaQ_of hns hz r (p' :: rs) (qs ++ [p]) m q' (by simp) (fun x hx => hp x (by simp [hx])) (fun hk => by have := hl hk; simp at *; omega) (by
        rw [if_neg (by simp), List.length_append, List.length_singleton, hq]
        rfl) (by omega)
      rw [this, List.append_assoc]
      rfl
theorem vaB_of {f : VaF} {k : Int} {ns : List (List UInt8)} {ps : List Val} (hns : k = 4 → ∀ x ∈ ns, nameOk x = true) (hz : k ≠ 4 → ns = []) (hl : k = 4 → ps.length = ns.length) (hp : ∀ p ∈ ps, CanVa f p) (hk4 : k = 3 ∨ k = 4) (r : List Tok) : vaB f k (tokL k ns ps ++ (enT k :: r)) = some (ns, ps, r) := by
  cases ps with
  | nil =>
    have : ns = [] := by
      by_cases hk : k = 4
      · exact List.eq_nil_of_length_eq_zero (by have := hl hk; simpa using this.symm)
      · exact hz hk
    subst this
    rw [tokL_nil, List.nil_append, vaB, if_pos rfl]
  | cons p ps =>
    have e : tokL k ns (p :: ps) = tokR k ns 0 (p :: ps) := rfl
    obtain ⟨t, x, hx⟩ : ∃ t x, tokL k ns (p :: ps) ++ (enT k :: r) = t :: x := by
      cases h : tokL k ns (p :: ps) <;> exact ⟨_, _, rfl⟩
    have hne : t ≠ enT k := by
      rw [e, tokR_cons] at hx
      unfold tokE at hx
      rw [if_pos rfl, List.nil_append] at hx
      rintro rfl
      by_cases hk : k = 4
      · rw [if_pos hk] at hx
        simp only [List.cons_append, List.cons.injEq] at hx
        have hlt : 0 < ns.length := by have := hl hk; simp at this; omega
        have h1 := hns hk _ (List.getElem_mem hlt)
        have e2 : ns.getD 0 [] = ns[0] := by simp [List.getD, hlt]
        rw [← e2, hx.1, show enT k = [125] from congrArg (fun x => [x]) (if_pos hk)] at h1
        exact absurd h1 (by decide)
      · rw [if_neg hk, List.nil_append] at hx
        have h3 : k = 3 := hk4.resolve_right hk
        subst h3
        rw [tokV_eq] at hx
        split at hx
        · obtain ⟨c, y, hc, h1, _⟩ := itoa_ne p.num
          simp only [List.cons_append, List.cons.injEq] at hx
          have := hx.1
          rw [hc] at this
          simp only [List.cons.injEq] at this
          rw [this.1] at h1
          exact absurd h1 (by decide)
        · split at hx
          · simp only [List.cons_append, List.cons.injEq] at hx
            have := hx.1
            simp [quoT] at this
          · simp only [List.cons_append, List.cons.injEq] at hx
            have := hx.1
            revert this
            split <;> decide
    rw [hx, vaB, if_neg hne, ← hx]
    exact vaQ_of hns hz r (p :: ps) [] _ _ (by simp) hp (fun hk => by have := hl hk; simpa using this) rfl (Nat.lt_succ_self _)
theorem vaV_of {v : Val} (hv : WfV v) : ∀ {d a b : Nat}, chk d v a = .ok b → CanVa (vaV (10 - d)) v := by
  induction hv with
  | num h =>
    intro d a b hc r
    rw [chk_eq] at hc
    split at hc
    · cases hc
    · rename_i h0
      have h0 := Decidable.not_not.1 h0
      unfold atCode at h0
      split at h0
      · cases h0
      · rename_i hd
        obtain ⟨n, hn⟩ : ∃ n, 10 - d = n + 1 := ⟨9 - d, by omega⟩
        rw [hn, tokV_num, List.singleton_append]
        obtain ⟨c, x, hc, h1, h2, h3, h4⟩ := itoa_bk _
        rw [vaV, if_neg, if_neg, if_neg, trNum_of h]
        · rw [hc]; simpa using fun h => absurd h h4
        · rw [hc]; simpa using fun h => absurd h h3
        · rw [hc]; simpa using h2
  | byt x =>
    intro d a b hc r
    rw [chk_eq] at hc
    split at hc
    · cases hc
    · rename_i h0
      have h0 := Decidable.not_not.1 h0
      unfold atCode at h0
      split at h0
      · cases h0
      · rename_i hd
        obtain ⟨n, hn⟩ : ∃ n, 10 - d = n + 1 := ⟨9 - d, by omega⟩
        rw [hn, tokV_byt, List.singleton_append, vaV, if_pos (show (quoT x).head? = some 34 from rfl), unqT_of]
  | @lst ps h ih =>
    intro d a b hc r
    rw [chk_eq] at hc
    split at hc
    · cases hc
    · rename_i h0
      have h0 := Decidable.not_not.1 h0
      unfold atCode at h0
      split at h0
      · cases h0
      · rename_i hd
        obtain ⟨n, hn⟩ : ∃ n, 10 - d = n + 1 := ⟨9 - d, by omega⟩
        have hp : ∀ p ∈ ps, CanVa (vaV n) p := fun p hp => by
          obtain ⟨x, y, hxy⟩ := chkL_all hc p hp
          have := ih p hp hxy
          rwa [show 10 - (d + 1) = n by omega] at this
        rw [hn, tokV_lst, List.cons_append, List.append_assoc, List.singleton_append, vaV, if_neg (by simp), if_pos (show opT 3 = [91] from rfl), vaB_of (fun h => absurd h (by decide)) (fun _ => rfl) (fun h => absurd h (by decide)) hp (.inl rfl)]
        rfl
  | @rcd s ps hs hl h ih =>
    intro d a b hc r
    rw [chk_eq] at hc
    split at hc
    · cases hc
    · rename_i h0
      have h0 := Decidable.not_not.1 h0
      unfold atCode at h0
      split at h0
      · cases h0
      · rename_i hd
        obtain ⟨n, hn⟩ : ∃ n, 10 - d = n + 1 := ⟨9 - d, by omega⟩
        have hp : ∀ p ∈ ps, CanVa (vaV n) p := fun p hp => by
          obtain ⟨x, y, hxy⟩ := chkL_all hc p hp
          have := ih p hp hxy
          rwa [show 10 - (d + 1) = n by omega] at this
        rw [hn, tokV_rcd, List.cons_append, List.append_assoc, List.singleton_append, vaV, if_neg (by simp), if_neg (by decide), if_pos (show opT 4 = [123] from rfl), vaB_of (fun _ => hs) (fun h => absurd rfl h) (fun _ => hl.symm) hp (.inr rfl)]
        rfl
theorem vfault_chk {v : Val} (h : (vfault v).1 = 0) : ∃ b, chk 0 v 0 = .ok b := by
  unfold vfault at h
  cases hc : chk 0 v 0 with
  | ok b => exact ⟨b, rfl⟩
  | error e =>
    rw [hc] at h
    dsimp only at h
    exfalso
    exact chk_err_ne hc h
where
  chk_err_ne {v : Val} {e : Int × Int} (hc : chk 0 v 0 = .error e) (h : e.1 = 0) : False := by
    unfold chk at hc
    exact scan_err hc h
  scan_err : ∀ {l : List (Val × Nat)} {n : Nat} {e : Int × Int}, scan l n = .error e → e.1 = 0 → False
    | [], n, e, hc, _ => by simp [scan] at hc
    | (v, d) :: l, n, e, hc, h => by
      simp only [scan] at hc
      split at hc
      · rename_i hne
        cases hc
        exact hne h
      · exact scan_err hc h
/-- a value that is valid is one that the notation can tell -/
theorem wf_of {N : Nat} {v : Val} (hB : VB N v) : ∀ {d a b : Nat}, chk d v a = .ok b → WfV v := by
  induction hB with
  | @mk v hk hn _ _ _ _ hp ih =>
    intro d a b hc
    rw [chk_eq] at hc
    split at hc
    · cases hc
    · rename_i h0
      have h0 := Decidable.not_not.1 h0
      unfold atCode at h0
      split at h0
      · cases h0
      · obtain ⟨h1, h2, _, h4, _⟩ := nodeCode_zero h0
        have hparts : ∀ p ∈ v.parts, WfV p := fun p hp' => by
          obtain ⟨x, y, hxy⟩ := chkL_all hc p hp'
          exact ih p hp' hxy
        obtain ⟨k, n, bs, ns, ps⟩ := v
        unfold formBad at h2
        simp only [Val.kind, Val.num, Val.bytes, Val.names, Val.parts] at *
        have hb0 : k ≠ 2 → bs = [] := fun h => List.eq_nil_of_length_eq_zero (by omega)
        have hn0 : k ≠ 4 → ns = [] := fun h => List.eq_nil_of_length_eq_zero (by omega)
        have hp0 : k < 3 → ps = [] := fun h => List.eq_nil_of_length_eq_zero (by omega)
        have hz0 : k ≠ 1 → n = 0 := fun h => by omega
        have : k = 1 ∨ k = 2 ∨ k = 3 ∨ k = 4 := by omega
        rcases this with rfl | rfl | rfl | rfl
        · rw [hb0 (by decide), hn0 (by decide), hp0 (by decide)]
          exact .num hn
        · rw [hz0 (by decide), hn0 (by decide), hp0 (by decide)]
          exact .byt bs
        · rw [hz0 (by decide), hb0 (by decide), hn0 (by decide)]
          exact .lst hparts
        · rw [hz0 (by decide), hb0 (by decide)]
          exact .rcd h4 (by omega) hparts
theorem wf_good {N : Nat} {v : Val} (hB : VB N v) (h : (vfault v).1 = 0) : WfV v := by
  obtain ⟨b, hb⟩ := vfault_chk h
  exact wf_of hB hb
/-- what the reference reads is what the program reads -/
theorem treTo_ref {l : List UInt8} (hl : l.length ≤ 1048576) : treTo l = match scP (l.length + 1) l with
    | none => none
    | some (L, lb) => match vaV 10 (L.map Prod.snd) with
      | none => none
      | some (v, r) => if r = [] ∧ (vfault v).1 = 0 then some (v, treRes (othB L lb)) else none := by
  cases h : treTo l with
  | some y =>
    obtain ⟨v, r⟩ := y
    obtain ⟨L, lb, h1, rfl, hv⟩ := treTo_some h
    obtain ⟨b, hb⟩ := vfault_chk hv
    have h2 := vaV_of h1.wf hb []
    rw [List.append_nil] at h2
    rw [h1.scan (Nat.lt_succ_self _)]
    simp only
    rw [h1.tk, h2]
    simp only
    rw [if_pos ⟨trivial, hv⟩]
  | none =>
    cases hs : scP (l.length + 1) l with
    | none => rfl
    | some x =>
      obtain ⟨L, lb⟩ := x
      simp only
      cases hv : vaV 10 (L.map Prod.snd) with
      | none => rfl
      | some y =>
        obtain ⟨v, r⟩ := y
        simp only
        split
        · rename_i hc
          exfalso
          obtain ⟨h1, h2, h3⟩ := scP_some hs
          obtain ⟨h4, h5⟩ := vaV_ok 10 _ _ _ hv
          rw [hc.1, List.append_nil] at h4
          rw [treTo_of ⟨h1, h2, h3, h4, h5⟩ hc.2] at h
          cases h
        · rfl

/-! ### blanks of the plain way -/
def wants : Bool → List Tok → List (List UInt8)
  | _, [] => []
  | sp, t :: ts => wantB sp :: wants (af t) ts
def afT (sp : Bool) : List Tok → Bool
  | [] => sp
  | t :: ts => afT (af t) ts
theorem wants_append : ∀ (sp : Bool) (a b : List Tok), wants sp (a ++ b) = wants sp a ++ wants (afT sp a) b
  | _, [], _ => rfl
  | sp, t :: a, b => by rw [List.cons_append, wants, wants, wants_append (af t) a b]; rfl
theorem afT_append : ∀ (sp : Bool) (a b : List Tok), afT sp (a ++ b) = afT (afT sp a) b
  | _, [], _ => rfl
  | _, _ :: a, b => afT_append _ a b
theorem wants_len : ∀ (sp : Bool) (a : List Tok), (wants sp a).length = a.length
  | _, [] => rfl
  | sp, t :: a => by rw [wants, List.length_cons, List.length_cons, wants_len]
theorem afT_tokV (sp : Bool) (v : Val) : afT sp (tokV v) = false := by
  rw [tokV_eq]
  split
  · exact itoa_af v.num
  · split
    · exact quoT_af v.bytes
    · rw [afT, afT_append]
      show af [if v.kind = 4 then 125 else 93] = false
      by_cases h : v.kind = 4
      · rw [if_pos h]; decide
      · rw [if_neg h]; decide
/-- what differs, by place -/
theorem dif_wants : ∀ (L : BL) (i : Nat) (sp : Bool), dif i sp L = (((L.map Prod.fst).zip (wants sp (L.map Prod.snd))).zipIdx i).flatMap fun x => if x.1.1 = x.1.2 then [] else [(x.2, x.1.1)]
  | [], i, sp => rfl
  | p :: L, i, sp => by
    rw [dif, List.map_cons, List.map_cons, wants, List.zip_cons_cons, List.zipIdx_cons, List.flatMap_cons, dif_wants L (i + 1) (af p.2)]
end Go.Proofs.YtffaffojkfalhaaGreatDoor
