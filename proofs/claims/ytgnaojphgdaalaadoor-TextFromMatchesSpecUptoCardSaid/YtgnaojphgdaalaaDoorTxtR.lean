/-
  Text files, plain: residues, To, From.
-/
import Derived.Test.YtgnaojphgdaalaaDoorTxtP
import Derived.Test.YtgnaojphgdaalaaDoorCnvL
import Derived.Test.YtgnaojphgdaalaaDoorWirF
namespace Go.Proofs.YtgnaojphgdaalaaDoor
open Go Go.RowKit

abbrev RunI := Int × Int
abbrev runI (r : Run) : RunI := ((r.1 : Int), (r.2 : Int))
def runsI (rs : List Run) : List RunI := rs.map runI
def runB (r : RunI) : List UInt8 := putN r.1 ++ putN r.2
def runAt (l : List UInt8) (p : Nat) : Got RunI :=
  match numAt l p with
  | .bad c i => .bad c i
  | .ok n q => match numAt l q with
    | .bad c i => .bad c i
    | .ok m r => .ok (n, m) r
theorem runAt_put {x : RunI} (h1 : I64 x.1) (h2 : I64 x.2) {l r : List UInt8} {p : Nat} (hp : p ≤ l.length) (h : l.drop p = runB x ++ r) : runAt l p = .ok x (p + (runB x).length) := by
  have e : l = l.take p ++ (runB x ++ r) := by rw [← h, List.take_append_drop]
  have hpl : (l.take p).length = p := by simp; omega
  unfold runB at e
  have n1 := numAt_put h1.1 h1.2 (l.take p) (putN x.2 ++ r)
  rw [hpl, show l.take p ++ (putN x.1 ++ (putN x.2 ++ r)) = l by rw [List.append_assoc] at e; exact e.symm] at n1
  have n2 := numAt_put h2.1 h2.2 (l.take p ++ putN x.1) r
  rw [show l.take p ++ putN x.1 ++ (putN x.2 ++ r) = l by rw [List.append_assoc] at e ⊢; exact e.symm, List.length_append, hpl] at n2
  unfold runAt
  rw [n1]
  simp only
  rw [n2]
  simp only [runB, List.length_append]
  congr 1
  omega
theorem runAt_ok {l : List UInt8} {p q : Nat} {x : RunI} (hp : p ≤ l.length) (h : runAt l p = .ok x q) : p + 2 ≤ q ∧ q ≤ l.length ∧ l.drop p = runB x ++ l.drop q ∧ I64 x.1 ∧ I64 x.2 := by
  unfold runAt at h
  split at h
  · cases h
  · rename_i n q1 h1
    split at h
    · cases h
    · rename_i m r h2
      cases h
      obtain ⟨a1, a2, _, a3⟩ := numAt_ok hp h1
      have a4 := numAt_split hp h1
      obtain ⟨b1, b2, _, b3⟩ := numAt_ok (by omega) h2
      have b4 := numAt_split (by omega) h2
      refine ⟨by omega, b2, ?_, a3, b3⟩
      rw [a4, b4, runB, List.append_assoc]
def okI (left p : Int) : List RunI → Bool
  | [] => true
  | x :: r => decide (0 ≤ x.1 ∧ x.1 < 3 ∧ 1 ≤ x.2 ∧ x.2 ≤ left ∧ x.1 ≠ p) && okI (left - x.2) x.1 r
def leftI (left : Int) : List RunI → Int
  | [] => left
  | x :: r => leftI (left - x.2) r
def lastI (p : Int) : List RunI → Int
  | [] => p
  | x :: r => lastI x.1 r
theorem okI_append : ∀ (l k : List RunI) (a p : Int), okI a p (l ++ k) = (okI a p l && okI (leftI a l) (lastI p l) k)
  | [], _, _, _ => by simp [okI, leftI, lastI]
  | x :: l, k, a, p => by simp only [List.cons_append, okI, leftI, lastI, okI_append l k, Bool.and_assoc]
theorem leftI_snoc : ∀ (l : List RunI) (a : Int) (x : RunI), leftI a (l ++ [x]) = leftI a l - x.2
  | [], _, _ => rfl
  | y :: l, a, x => leftI_snoc l _ x
theorem lastI_snoc : ∀ (l : List RunI) (p : Int) (x : RunI), lastI p (l ++ [x]) = x.1
  | [], _, _ => rfl
  | y :: l, a, x => lastI_snoc l _ x
theorem okI_len : ∀ {l : List RunI} {a p : Int}, okI a p l = true → 0 ≤ a → (l.length : Int) ≤ a ∧ 0 ≤ leftI a l ∧ leftI a l ≤ a
  | [], a, _, _, h => ⟨by simpa using h, h, Int.le_refl _⟩
  | x :: l, a, p, h, h0 => by
    simp only [okI, Bool.and_eq_true, decide_eq_true_eq] at h
    obtain ⟨⟨h1, h2, h3, h4, _⟩, h5⟩ := h
    obtain ⟨g1, g2, g3⟩ := okI_len h5 (by omega)
    simp only [List.length_cons, leftI]
    refine ⟨by omega, g2, by omega⟩
theorem okI_false {l k : List RunI} {a p : Int} {x : RunI} (h : ¬ (0 ≤ x.1 ∧ x.1 < 3 ∧ 1 ≤ x.2 ∧ x.2 ≤ leftI a l ∧ x.1 ≠ lastI p l)) : okI a p (l ++ x :: k) = false := by
  rw [okI_append, okI, decide_eq_false h]
  simp
theorem okI_runs : ∀ {l : List RunI} {a : Int} {p : Nat}, okI a p l = true → 0 ≤ a → ∃ rs, l = runsI rs ∧ runsOk p rs ∧ (runsSum rs : Int) ≤ a
  | [], a, p, _, h => ⟨[], rfl, trivial, by simpa [runsSum] using h⟩
  | x :: l, a, p, h, h0 => by
    simp only [okI, Bool.and_eq_true, decide_eq_true_eq] at h
    obtain ⟨⟨h1, h2, h3, h4, h6⟩, h5⟩ := h
    obtain ⟨k, n⟩ := x
    dsimp only at h1 h2 h3 h4 h5 h6
    obtain ⟨k, rfl⟩ : ∃ j : Nat, k = j := ⟨k.toNat, by omega⟩
    obtain ⟨n, rfl⟩ : ∃ j : Nat, n = j := ⟨n.toNat, by omega⟩
    obtain ⟨rs, g1, g2, g3⟩ := okI_runs h5 (by omega)
    refine ⟨(k, n) :: rs, by rw [g1]; rfl, ⟨by show k < 3; omega, by show 1 ≤ n; omega, by show k ≠ p; omega, g2⟩, ?_⟩
    have : runsSum ((k, n) :: rs) = n + runsSum rs := by simp [runsSum]
    rw [this]
    omega
theorem okI_of : ∀ {rs : List Run} {a : Int} {p : Nat}, runsOk p rs → (runsSum rs : Int) ≤ a → okI a p (runsI rs) = true
  | [], _, _, _, _ => rfl
  | (k, n) :: rs, a, p, h, ha => by
    obtain ⟨h1, h2, h3, h4⟩ := h
    dsimp only at h1 h2 h3 h4
    have e : runsSum ((k, n) :: rs) = n + runsSum rs := by simp [runsSum]
    rw [e] at ha
    show (decide (0 ≤ (k : Int) ∧ (k : Int) < 3 ∧ 1 ≤ (n : Int) ∧ (n : Int) ≤ a ∧ (k : Int) ≠ p) && okI (a - n) k (runsI rs)) = true
    rw [okI_of h4 (by omega), decide_eq_true (by omega)]
    rfl
theorem runsOk_small : ∀ {rs : List Run} {p : Nat}, runsOk p rs → rs.length ≤ runsSum rs ∧ ∀ r ∈ rs, r.1 < 3 ∧ r.2 ≤ runsSum rs
  | [], _, _ => ⟨Nat.le_refl _, by simp⟩
  | (k, n) :: rs, p, h => by
    obtain ⟨h1, h2, h3, h4⟩ := h
    obtain ⟨g1, g2⟩ := runsOk_small h4
    have e : runsSum ((k, n) :: rs) = n + runsSum rs := by simp [runsSum]
    dsimp only at h1 h2
    rw [e]
    refine ⟨by simp only [List.length_cons]; omega, fun r hr => ?_⟩
    rcases List.mem_cons.1 hr with rfl | hr
    · exact ⟨h1, by dsimp only; omega⟩
    · have := g2 r hr
      exact ⟨this.1, by omega⟩
abbrev natR (r : RunI) : Run := (r.1.toNat, r.2.toNat)
theorem natR_I (rs : List Run) : (runsI rs).map natR = rs := by
  unfold runsI
  rw [List.map_map]
  conv => rhs; rw [← List.map_id rs]
  exact List.map_congr_left fun x _ => by obtain ⟨a, b⟩ := x; simp
/-- what a residue with these bytes tells, be it trivial or not -/
def txtRaw (b : List UInt8) : Option (Nat × List Run) := match numAt b 0 with
  | .bad _ _ => none
  | .ok e p => if e < 0 ∨ 5 ≤ e then none else match listAt b (runAt b) b.length p with
    | .bad _ _ => none
    | .ok rs q => if q ≠ b.length then none else if okI 1000 3 rs = true then some (e.toNat, rs.map natR) else none
def txtTriv (e : Nat) (ks : List Nat) : Bool := decide (e = 0) && ks.all (· == 0)
def txtRd (b : List UInt8) : Option (Nat × List Run) := if b = [] then some (0, []) else match txtRaw b with
  | none => none
  | some (e, rs) => if txtTriv e (runsK rs) = true then none else some (e, rs)
def txtRB (e : Nat) (rs : List Run) : List UInt8 := putN e ++ putL runB (runsI rs)
def txtRes (e : Nat) (ks : List Nat) : List UInt8 := if txtTriv e ks = true then [] else txtRB e (runsOf ks)
theorem runB_ge (x : RunI) : 2 ≤ (runB x).length := by
  have := putU_len (zz x.1)
  have := putU_len (zz x.2)
  simp only [runB, putN, List.length_append]
  omega
theorem flat2 : ∀ (l : List RunI), 2 * l.length ≤ (l.flatMap runB).length
  | [] => Nat.le_refl _
  | x :: l => by
    have := flat2 l
    have := runB_ge x
    rw [List.flatMap_cons, List.length_append, List.length_cons]
    omega
theorem txtRB_ne (e : Nat) (rs : List Run) : txtRB e rs ≠ [] := by
  intro h
  have := congrArg List.length h
  have := putU_len (zz (e : Int))
  simp only [txtRB, putN, List.length_append, List.length_nil] at *
  omega
theorem txtRaw_of {e : Nat} {rs : List Run} (he : e < 5) (ho : runsOk 3 rs) (hs : runsSum rs ≤ 1000) : txtRaw (txtRB e rs) = some (e, rs) := by
  obtain ⟨b, hb⟩ : ∃ b, b = txtRB e rs := ⟨_, rfl⟩
  rw [← hb]
  unfold txtRB at hb
  obtain ⟨g1, g2⟩ := runsOk_small ho
  have hil : (runsI rs).length = rs.length := by simp [runsI]
  have n1 := numAt_put (n := (e : Int)) (by omega) (by omega) [] (putL runB (runsI rs))
  simp only [List.nil_append, ← hb, List.length_nil, Nat.zero_add] at n1
  have n2 := numAt_put (n := ((runsI rs).length : Int)) (by omega) (by omega) (putN (e : Int)) ((runsI rs).flatMap runB)
  have hb2 : putN (e : Int) ++ (putN ((runsI rs).length : Int) ++ (runsI rs).flatMap runB) = b := hb.symm
  rw [hb2] at n2
  have hbl2 := congrArg List.length hb2
  simp only [List.length_append] at hbl2
  have n3 := manyAt_put (f := runB) (b := b) (one := runAt b) (runsI rs) ((putN (e : Int)).length + (putN ((runsI rs).length : Int)).length) (by omega) (fun x hx q r hq h => by
    obtain ⟨y, hy, rfl⟩ := List.mem_map.1 hx
    have := g2 y hy
    exact runAt_put (by constructor <;> dsimp only <;> omega) (by constructor <;> dsimp only <;> omega) hq h) [] (by
      rw [← hb2, ← List.append_assoc, ← List.length_append, List.drop_left]
      simp)
  have h2 := flat2 (runsI rs)
  have n4 : listAt b (runAt b) b.length (putN (e : Int)).length = .ok (runsI rs) b.length := by
    unfold listAt
    rw [n2]
    simp only
    rw [if_neg (by omega), Int.toNat_natCast, n3]
    congr 1
    omega
  unfold txtRaw
  rw [n1]
  simp only
  rw [if_neg (by omega), n4]
  simp only
  have ho3 : okI 1000 3 (runsI rs) = true := okI_of (p := 3) ho (by omega)
  rw [if_neg (by simp), if_pos ho3, natR_I, Int.toNat_natCast]
theorem txtRaw_some {b : List UInt8} {e : Nat} {rs : List Run} (h : txtRaw b = some (e, rs)) : e < 5 ∧ runsOk 3 rs ∧ runsSum rs ≤ 1000 ∧ b = txtRB e rs := by
  unfold txtRaw at h
  split at h
  · cases h
  · rename_i e' p h1
    split at h
    · cases h
    · rename_i h2
      split at h
      · cases h
      · rename_i l q h3
        split at h
        · cases h
        · rename_i h4
          split at h
          rotate_left
          · cases h
          rename_i h5
          simp only [Option.some.injEq, Prod.mk.injEq] at h
          obtain ⟨rfl, rfl⟩ := h
          obtain ⟨rs, rfl, g2, g3⟩ := okI_runs (p := 3) h5 (by decide)
          rw [natR_I]
          refine ⟨by omega, g2, by omega, ?_⟩
          have s1 := numAt_split (Nat.zero_le _) h1
          obtain ⟨p1, p2, _⟩ := numAt_ok (Nat.zero_le _) h1
          rw [List.drop_zero] at s1
          unfold listAt at h3
          split at h3
          · cases h3
          · rename_i n q1 h6
            split at h3
            · cases h3
            · rename_i h7
              have s2 := numAt_split p2 h6
              obtain ⟨p3, p4, _⟩ := numAt_ok p2 h6
              obtain ⟨m1, m2, m3, m4⟩ := manyAt_ok (f := runB) (b := b) (one := runAt b) (fun p q x hp h => by
                obtain ⟨a1, a2, a3, _⟩ := runAt_ok hp h
                exact ⟨by omega, a2, a3⟩) _ _ _ _ p4 h3
              have e1 : (e'.toNat : Int) = e' := by omega
              have e2 : ((runsI rs).length : Int) = n := by omega
              have e3 : q = b.length := Decidable.not_not.1 h4
              unfold txtRB putL
              rw [e1, e2]
              rw [s2, m4, e3, List.drop_length, List.append_nil] at s1
              exact s1
theorem txtRd_some {b : List UInt8} {e : Nat} {rs : List Run} (h : txtRd b = some (e, rs)) : e < 5 ∧ runsOk 3 rs ∧ runsSum rs ≤ 1000 ∧ b = txtRes e (runsK rs) ∧ (b = [] ↔ txtTriv e (runsK rs) = true) := by
  unfold txtRd at h
  split at h
  · rename_i hb
    cases h
    subst hb
    exact ⟨by decide, trivial, by decide, rfl, by simp [txtTriv, runsK]⟩
  · rename_i hb
    split at h
    · cases h
    · rename_i e' rs' h1
      split at h
      · cases h
      · rename_i h2
        cases h
        obtain ⟨a1, a2, a3, a4⟩ := txtRaw_some h1
        refine ⟨a1, a2, a3, ?_, fun q => absurd q hb, fun q => absurd q h2⟩
        unfold txtRes
        rw [if_neg h2, (runsOf_K rs 3 a2).1]
        exact a4
theorem txtRd_res {e : Nat} {ks : List Nat} (he : e < 5) (hk : ∀ k ∈ ks, k < 3) (hl : ks.length ≤ 1000) : txtRd (txtRes e ks) = some (if txtTriv e ks = true then (0, []) else (e, runsOf ks)) := by
  obtain ⟨r1, r2, r3, r4, r5⟩ := runsOf_facts ks
  have ho := r3 hk 3 (by
    cases ks with
    | nil => simp
    | cons k ks => have := hk k (by simp); simp; omega)
  unfold txtRes
  split
  · rfl
  · rename_i ht
    unfold txtRd
    rw [if_neg (txtRB_ne _ _), txtRaw_of he ho (by omega)]
    simp only
    rw [r1, if_neg ht]
/-! ### To -/
abbrev declC (c : Nat) : Prop := (c < 32 ∧ c ≠ 9 ∧ c ≠ 10 ∧ c ≠ 13) ∨ (127 ≤ c ∧ c < 160)
abbrev txtVal (b : List UInt8) : Val := .mk 2 0 b [] []
def txtTo (b : List UInt8) : Option (Val × List UInt8) := if (fileC b).1.any (fun c => decide (declC c)) = true then none else
  some (txtVal ((lines (fileC b).1).1.flatMap u8c), txtRes (fileC b).2 (lines (fileC b).1).2)
def txtShape (v : Val) : Option (List UInt8) := if v.kind = 2 then some v.bytes else none
def txtCs (b : List UInt8) (rs : List Run) (l : List Nat) : Option (List Nat) := if b = [] then some l else unlines l (runsK rs)
def txtOut (t b : List UInt8) : Option (List UInt8) := match txtRd b with
  | none => none
  | some (e, rs) => match chars t with
    | none => none
    | some l => match txtCs b rs l with
      | none => none
      | some cs => encC e cs
noncomputable def txtMake (v : Val) (b : List UInt8) : Option (List UInt8) := match txtShape v with
  | none => none
  | some t => match txtOut t b with
    | none => none
    | some o => open Classical in if o.length ≤ 1000 ∧ txtTo o = some (v, b) then some o else none
theorem flat_u8_le {cs : List Nat} : cs.length ≤ (cs.flatMap u8c).length := by
  induction cs with
  | nil => exact Nat.le_refl _
  | cons c cs ih =>
    have := u8n_le c
    rw [List.flatMap_cons, List.length_append, List.length_cons, u8c_len]
    omega
theorem flat_u16 (big : Bool) : ∀ {cs : List Nat}, (∀ c ∈ cs, isCh c) → cs.length ≤ ((cs.flatMap u16c).flatMap (unB big)).length ∧ (cs.flatMap u8c).length ≤ 2 * ((cs.flatMap u16c).flatMap (unB big)).length
  | [], _ => ⟨Nat.le_refl _, Nat.le_refl _⟩
  | c :: cs, h => by
    obtain ⟨h1, h2⟩ := flat_u16 big (cs := cs) fun x hx => h x (by simp [hx])
    have hn := u8n_le c
    have hu : 2 ≤ ((u16c c).flatMap (unB big)).length := by
      unfold u16c
      split
      · simp [unB_len]
      · simp [unB_len]
    rw [List.flatMap_cons, List.flatMap_cons, List.flatMap_append, List.length_append, List.length_append, List.length_cons, u8c_len]
    omega
theorem encC_len {e : Nat} {cs : List Nat} {b : List UInt8} (h : ∀ c ∈ cs, isCh c) (he : encC e cs = some b) : cs.length ≤ b.length ∧ (cs.flatMap u8c).length ≤ 2 * b.length := by
  have h0 := flat_u8_le (cs := cs)
  unfold encC at he
  split at he
  · cases he; omega
  · split at he
    · cases he; rw [List.length_append]; omega
    · split at he
      · cases he
        obtain ⟨a1, a2⟩ := flat_u16 true h
        rw [List.length_append]; omega
      · split at he
        · cases he
          obtain ⟨a1, a2⟩ := flat_u16 false h
          rw [List.length_append]; omega
        · split at he
          · rename_i hall
            cases he
            have : ∀ (cs : List Nat), (∀ c ∈ cs, c < 256) → (cs.flatMap u8c).length ≤ 2 * cs.length := by
              intro cs
              induction cs with
              | nil => intro _; exact Nat.le_refl _
              | cons c cs ih =>
                intro hh
                have := ih fun x hx => hh x (by simp [hx])
                have hc := hh c (by simp)
                rw [List.flatMap_cons, List.length_append, List.length_cons, u8c_len]
                unfold u8n
                rw [if_pos (show c < 2048 by omega)]
                split <;> omega
            have := this cs hall
            rw [List.length_map]
            omega
          · cases he
theorem lines_u8 : ∀ (n : Nat) (l : List Nat), l.length ≤ n → ((lines l).1.flatMap u8c).length ≤ (l.flatMap u8c).length
  | 0, l, h => by
    have : l = [] := List.eq_nil_of_length_eq_zero (by omega)
    subst this
    exact Nat.le_refl _
  | n + 1, [], h => Nat.le_refl _
  | n + 1, c :: r, h => by
    have hr : r.length ≤ n := by simpa using h
    have ih := lines_u8 n r hr
    have h10 : (u8c 10).length = 1 := rfl
    have h13 : (u8c 13).length = 1 := rfl
    by_cases h1 : c = 10
    · subst h1
      rw [lines_lf, List.flatMap_cons, List.flatMap_cons, List.length_append, List.length_append]
      omega
    by_cases h2 : c = 13
    · subst h2
      by_cases h3 : ∃ k, r = 10 :: k
      · obtain ⟨r, rfl⟩ := h3
        have ih := lines_u8 n r (by simp at hr; omega)
        rw [lines_both, List.flatMap_cons, List.flatMap_cons, List.flatMap_cons, List.length_append, List.length_append, List.length_append]
        omega
      · rw [lines_cr (fun k e => h3 ⟨k, e⟩), List.flatMap_cons, List.flatMap_cons, List.length_append, List.length_append]
        omega
    · rw [lines_other h1 h2, List.flatMap_cons, List.flatMap_cons, List.length_append, List.length_append]
      omega
/-- what a file that is accepted holds -/
structure TxtF (b : List UInt8) (v : Val) (r : List UInt8) (cs : List Nat) (e : Nat) : Prop where
  eq : fileC b = (cs, e)
  enc : encC e cs = some b
  e5 : e < 5
  ch : ∀ c ∈ cs, isCh c
  val : v = txtVal ((lines cs).1.flatMap u8c)
  res : r = txtRes e (lines cs).2
  k3 : ∀ k ∈ (lines cs).2, k < 3
  kl : (lines cs).2.length ≤ b.length
  vl : ((lines cs).1.flatMap u8c).length ≤ 2 * b.length
  chars : chars ((lines cs).1.flatMap u8c) = some (lines cs).1
  back : unlines (lines cs).1 (lines cs).2 = some cs
  plain : txtTriv e (lines cs).2 = true → (lines cs).1 = cs ∧ e = 0
theorem txtTo_some {b : List UInt8} {v : Val} {r : List UInt8} (h : txtTo b = some (v, r)) : ∃ cs e, TxtF b v r cs e := by
  unfold txtTo at h
  split at h
  · cases h
  · simp only [Option.some.injEq, Prod.mk.injEq] at h
    obtain ⟨h1, h2⟩ := h
    obtain ⟨g1, g2, g3⟩ := fileC_enc b
    generalize hf : fileC b = x at *
    obtain ⟨cs, e⟩ := x
    dsimp only at h1 h2 g1 g2 g3
    obtain ⟨a1, a2, a3, a4, a5⟩ := lines_back _ cs (Nat.le_refl _)
    obtain ⟨l1, l2⟩ := encC_len g3 g1
    have l3 := lines_u8 _ cs (Nat.le_refl _)
    refine ⟨cs, e, hf, g1, g2, g3, h1.symm, h2.symm, a2, by omega, by omega, chars_of _ fun c hc => ?_, a1, fun ht => ?_⟩
    · rcases a5 c hc with h | h
      · subst h; unfold isCh; omega
      · exact g3 c h
    · unfold txtTriv at ht
      simp only [Bool.and_eq_true, decide_eq_true_eq, List.all_eq_true, beq_iff_eq] at ht
      exact ⟨lines_plain _ cs (Nat.le_refl _) ht.2, ht.1⟩
theorem txtShape_val (b : List UInt8) : txtShape (txtVal b) = some b := rfl
theorem txt_out {b : List UInt8} {v : Val} {r : List UInt8} {cs : List Nat} {e : Nat} (hl : b.length ≤ 1000) (T : TxtF b v r cs e) : txtOut ((lines cs).1.flatMap u8c) r = some b := by
  have hk := T.kl
  have hrd := txtRd_res T.e5 T.k3 (by omega)
  rw [← T.res] at hrd
  unfold txtOut
  rw [hrd]
  by_cases ht : txtTriv e (lines cs).2 = true
  · obtain ⟨p1, p2⟩ := T.plain ht
    rw [if_pos ht]
    simp only
    rw [T.chars]
    simp only
    have hr : r = [] := by rw [T.res, txtRes, if_pos ht]
    rw [txtCs, if_pos hr]
    simp only
    rw [p1, ← T.enc, p2]
  · rw [if_neg ht]
    simp only
    rw [T.chars]
    simp only
    have hr : r ≠ [] := by rw [T.res, txtRes, if_neg ht]; exact txtRB_ne _ _
    rw [txtCs, if_neg hr, (runsOf_facts _).1, T.back]
    exact T.enc
theorem txt_round {b : List UInt8} {v : Val} {r : List UInt8} (hl : b.length ≤ 1000) (h : txtTo b = some (v, r)) : txtMake v r = some b := by
  obtain ⟨cs, e, T⟩ := txtTo_some h
  unfold txtMake
  rw [T.val, txtShape_val]
  simp only
  rw [txt_out hl T]
  simp only
  rw [if_pos ⟨hl, by rw [← T.val]; exact h⟩]
theorem txtMake_some {v : Val} {b o : List UInt8} (h : txtMake v b = some o) : o.length ≤ 1000 ∧ txtTo o = some (v, b) := by
  unfold txtMake at h
  split at h
  · cases h
  · split at h
    · cases h
    · split at h
      · rename_i hk; cases h; exact hk
      · cases h
theorem enc_txt (b : List UInt8) : enc (txtVal b) = putN 2 ++ putC b := by
  rw [enc_eq]
  simp only [Val.kind, Val.num, Val.bytes, Val.names, Val.parts]
  rw [if_neg (by decide), if_pos trivial]
theorem chk_txt (b : List UInt8) : chk 0 (txtVal b) 0 = .ok 1 := by
  have e : pre 0 (txtVal b) = [(txtVal b, 0)] := by
    rw [pre_eq]
    simp
  have n2 : nodeCode (txtVal b) = 0 := by simp [nodeCode, formBad, Val.kind, Val.num, Val.bytes, Val.names, Val.parts]
  unfold chk
  rw [e]
  simp [scan, atCode, n2]
theorem vfault_txt {b : List UInt8} (h3 : b.length ≤ 3000) : vfault (txtVal b) = (0, 0) := by
  have hl := congrArg List.length (enc_txt b)
  have a3 := putC_len (b := b) (by omega)
  have a10 := putN_len (n := 2) (by decide) (by decide)
  simp only [List.length_append] at hl
  unfold vfault
  rw [chk_txt]
  simp only
  rw [if_neg (by omega)]
/-! ### losses -/
abbrev lsEnc : List UInt8 := [101, 110, 99, 111, 100, 105, 110, 103]
abbrev lsBoth : List UInt8 := [99, 97, 114, 114, 105, 97, 103, 101, 32, 114, 101, 116, 117, 114, 110, 32, 97, 110, 100, 32, 108, 105, 110, 101, 32, 102, 101, 101, 100]
abbrev lsCr : List UInt8 := [99, 97, 114, 114, 105, 97, 103, 101, 32, 114, 101, 116, 117, 114, 110]
def loss1 (s : List UInt8) (n : Nat) : List LossD := if 0 < n then [(s, (n : Int))] else []
def txtLs (e : Nat) (ks : List Nat) : List LossD := loss1 lsEnc e ++ loss1 lsBoth (ks.count 1) ++ loss1 lsCr (ks.count 2)
def txtLoss (b : List UInt8) : Option (List LossD) := match txtRd b with
  | none => none
  | some (e, rs) => some (txtLs e (runsK rs))
theorem loss1_nil {s : List UInt8} {n : Nat} : loss1 s n = [] ↔ n = 0 := by
  unfold loss1
  split
  · rename_i h; exact ⟨fun q => (by cases q), fun q => (by omega)⟩
  · rename_i h; exact ⟨fun _ => by omega, fun _ => rfl⟩
theorem txtLs_len (e : Nat) (ks : List Nat) : (txtLs e ks).length ≤ 4 := by
  have h : ∀ s n, (loss1 s n).length ≤ 1 := fun s n => by unfold loss1; split <;> simp
  have := h lsEnc e
  have := h lsBoth (ks.count 1)
  have := h lsCr (ks.count 2)
  simp only [txtLs, List.length_append]
  omega
theorem txtLs_nil {e : Nat} {ks : List Nat} (hk : ∀ k ∈ ks, k < 3) : txtLs e ks = [] ↔ txtTriv e ks = true := by
  unfold txtLs txtTriv
  rw [List.append_eq_nil_iff, List.append_eq_nil_iff, loss1_nil, loss1_nil, loss1_nil, List.count_eq_zero, List.count_eq_zero]
  simp only [Bool.and_eq_true, decide_eq_true_eq, List.all_eq_true, beq_iff_eq]
  constructor
  · rintro ⟨⟨h1, h2⟩, h3⟩
    refine ⟨h1, fun k hm => ?_⟩
    have := hk k hm
    have : k ≠ 1 := fun e => h2 (e ▸ hm)
    have : k ≠ 2 := fun e => h3 (e ▸ hm)
    omega
  · rintro ⟨h1, h2⟩
    exact ⟨⟨h1, fun hm => absurd (h2 1 hm) (by decide)⟩, fun hm => absurd (h2 2 hm) (by decide)⟩
theorem txtLoss_len {b : List UInt8} {ls : List LossD} (h : txtLoss b = some ls) : ls.length ≤ 1000000 := by
  unfold txtLoss at h
  split at h
  · cases h
  · cases h
    exact Nat.le_trans (txtLs_len _ _) (by decide)
theorem runB_small {x : Run} (h1 : x.1 < 3) (h2 : x.2 ≤ 1000) : (runB (runI x)).length ≤ 20 := by
  have a1 := putN_len (n := (x.1 : Int)) (by omega) (by omega)
  have a2 := putN_len (n := (x.2 : Int)) (by omega) (by omega)
  simp only [runB, List.length_append]
  omega
theorem txtRes_len {e : Nat} {ks : List Nat} (he : e < 5) (hk : ∀ k ∈ ks, k < 3) (hl : ks.length ≤ 1000) : (txtRes e ks).length ≤ 100000 := by
  obtain ⟨r1, r2, r3, r4, r5⟩ := runsOf_facts ks
  have ho := r3 hk 3 (by
    cases ks with
    | nil => simp
    | cons k ks => have := hk k (by simp); simp; omega)
  obtain ⟨s1, s2⟩ := runsOk_small ho
  have hil : (runsI (runsOf ks)).length = (runsOf ks).length := by simp [runsI]
  unfold txtRes
  split
  · simp
  · unfold txtRB
    have a1 := putN_len (n := (e : Int)) (by omega) (by omega)
    have := putL_len (f := runB) (m := 20) (l := runsI (runsOf ks)) (by omega) (fun x hx => by
      obtain ⟨y, hy, rfl⟩ := List.mem_map.1 hx
      have := s2 y hy
      exact runB_small this.1 (by omega))
    rw [List.length_append]
    omega
theorem txt_valid {b : List UInt8} {v : Val} {r : List UInt8} (hl : b.length ≤ 1000) (h : txtTo b = some (v, r)) : VB 1048576 v ∧ (vfault v).1 = 0 ∧ (txtShape v).isSome = true ∧ txtMake v r = some b ∧ r.length ≤ 100000000 ∧ ∃ ls, txtLoss r = some ls ∧ ls.length ≤ 4 ∧ (ls = [] ↔ r = []) := by
  have hmk := txt_round hl h
  obtain ⟨cs, e, T⟩ := txtTo_some h
  have hk := T.kl
  have hv := T.vl
  have hrd := txtRd_res T.e5 T.k3 (by omega)
  rw [← T.res] at hrd
  refine ⟨by rw [T.val]; exact vb_byt (by omega), by rw [T.val, vfault_txt (by omega)], by rw [T.val]; rfl, hmk, by rw [T.res]; have := txtRes_len T.e5 T.k3 (by omega); omega, ?_⟩
  unfold txtLoss
  rw [hrd]
  by_cases ht : txtTriv e (lines cs).2 = true
  · rw [if_pos ht]
    refine ⟨_, rfl, txtLs_len _ _, ?_⟩
    rw [T.res, txtRes, if_pos ht]
    exact ⟨fun _ => rfl, fun _ => rfl⟩
  · rw [if_neg ht]
    refine ⟨_, rfl, txtLs_len _ _, ?_⟩
    rw [(runsOf_facts _).1, txtLs_nil T.k3, T.res, txtRes, if_neg ht]
    exact ⟨fun q => absurd q ht, fun q => absurd q (txtRB_ne _ _)⟩
end Go.Proofs.YtgnaojphgdaalaaDoor
