/-
  Sound files: plain facts.
-/
import Derived.Test.YtjfcpnlacodjjaaGetA
import Derived.Test.YtjfcpnlacodjjaaValP
namespace Go.Proofs.Ytjfcpnlacodjjaa
open Go Go.RowKit

/-! ### chunks -/
abbrev Chk := UInt8 × List UInt8
def chkLen (l : List UInt8) : Nat := 256 * at8 l 1 + at8 l 2
def chksF : Nat → List UInt8 → Option (List Chk)
  | 0, _ => none
  | n + 1, l => if l.length = 1 ∧ at8 l 0 = 0 then some [] else if l.length < 3 ∨ at8 l 0 < 65 ∨ 90 < at8 l 0 then none
    else if l.length - 3 < chkLen l then none else (chksF n (l.drop (3 + chkLen l))).map ((l[0]?.getD 0, (l.drop 3).take (chkLen l)) :: ·)
def chks (l : List UInt8) : Option (List Chk) := chksF (l.length + 1) l
theorem chksF_fuel : ∀ (n m : Nat) (l : List UInt8), l.length < n → l.length < m → chksF n l = chksF m l
  | 0, _, l, h, _ => by omega
  | _ + 1, 0, l, _, h => by omega
  | n + 1, m + 1, l, h1, h2 => by
    simp only [chksF]
    split
    · rfl
    · split
      · rfl
      · split
        · rfl
        · rename_i h3 h4
          have : (l.drop (3 + chkLen l)).length < l.length := by simp; omega
          rw [chksF_fuel n m _ (by omega) (by omega)]
theorem chks_eq (l : List UInt8) : chks l = if l.length = 1 ∧ at8 l 0 = 0 then some [] else if l.length < 3 ∨ at8 l 0 < 65 ∨ 90 < at8 l 0 then none
    else if l.length - 3 < chkLen l then none else (chks (l.drop (3 + chkLen l))).map ((l[0]?.getD 0, (l.drop 3).take (chkLen l)) :: ·) := by
  unfold chks
  rw [chksF]
  split
  · rfl
  · split
    · rfl
    · split
      · rfl
      · rename_i h3 h4
        rw [chksF_fuel l.length ((l.drop (3 + chkLen l)).length + 1) _ (by simp; omega) (by omega)]
theorem chks_nil : chks [] = none := by rw [chks_eq]; simp
/-- the bytes of a chunk -/
def putChk (c : Chk) : List UInt8 := c.1 :: UInt8.ofNat (c.2.length / 256) :: UInt8.ofNat (c.2.length % 256) :: c.2
def chkOk (c : Chk) : Prop := 65 ≤ c.1.toNat ∧ c.1.toNat ≤ 90 ∧ c.2.length ≤ 65535
theorem chks_put : ∀ (l : List Chk), (∀ c ∈ l, chkOk c) → chks (l.flatMap putChk ++ [0]) = some l
  | [], _ => by rw [chks_eq]; simp [at8]
  | c :: l, h => by
    obtain ⟨h1, h2, h3⟩ := h c (by simp)
    have ih := chks_put l fun x hx => h x (by simp [hx])
    have e0 : (c :: l).flatMap putChk ++ [0] = c.1 :: UInt8.ofNat (c.2.length / 256) :: UInt8.ofNat (c.2.length % 256) :: (c.2 ++ (l.flatMap putChk ++ [0])) := by simp [putChk]
    have hlen : chkLen ((c :: l).flatMap putChk ++ [0]) = c.2.length := by
      rw [e0]
      simp only [chkLen, at8, List.getElem?_cons_succ, List.getElem?_cons_zero, Option.getD_some]
      rw [toNat_ofNat_lt (by omega), toNat_ofNat_lt (by omega)]
      omega
    have h0 : at8 ((c :: l).flatMap putChk ++ [0]) 0 = c.1.toNat := by rw [e0]; rfl
    have hl : ((c :: l).flatMap putChk ++ [0]).length = 3 + (c.2.length + (l.flatMap putChk ++ [0]).length) := by rw [e0]; simp; omega
    have hp : 0 < (l.flatMap putChk ++ [0]).length := by simp
    rw [chks_eq, if_neg (by omega), if_neg (by omega), if_neg (by omega), hlen]
    have e1 : ((c :: l).flatMap putChk ++ [0]).drop (3 + c.2.length) = l.flatMap putChk ++ [0] := by
      rw [e0, ← List.drop_drop]
      simp
    have e2 : (((c :: l).flatMap putChk ++ [0]).drop 3).take c.2.length = c.2 := by
      rw [e0]
      simp
    rw [e1, ih, e2, e0]
    rfl
theorem putChk_len (c : Chk) : (putChk c).length = 3 + c.2.length := by simp [putChk]; omega
/-- what is divided was written so -/
theorem chks_some : ∀ (n : Nat) (b : List UInt8) (l : List Chk), b.length ≤ n → chks b = some l → b = l.flatMap putChk ++ [0] ∧ ∀ c ∈ l, chkOk c
  | 0, b, l, hb, h => by
    have : b = [] := List.eq_nil_of_length_eq_zero (by omega)
    subst this
    rw [chks_nil] at h
    cases h
  | n + 1, b, l, hb, h => by
    rw [chks_eq] at h
    split at h
    · rename_i h1
      cases h
      obtain ⟨x, rfl⟩ : ∃ x, b = [x] := by
        match b, h1.1 with
        | [x], _ => exact ⟨x, rfl⟩
      refine ⟨?_, by simp⟩
      have := h1.2
      simp only [at8, List.getElem?_cons_zero, Option.getD_some] at this
      have : x = 0 := UInt8.toNat_inj.1 this
      rw [this]
      rfl
    · split at h
      · cases h
      · split at h
        · cases h
        · rename_i h1 h2 h3
          cases hr : chks (b.drop (3 + chkLen b)) with
          | none => rw [hr] at h; cases h
          | some l' =>
            rw [hr] at h
            simp only [Option.map_some, Option.some.injEq] at h
            subst h
            obtain ⟨a1, a2⟩ := chks_some n _ l' (by simp; omega) hr
            have hlen : ((b.drop 3).take (chkLen b)).length = chkLen b := by simp; omega
            have hlt : chkLen b ≤ 65535 := by
              have p1 := (b[1]?.getD 0).toNat_lt
              have p2 := (b[2]?.getD 0).toNat_lt
              unfold chkLen at8
              omega
            refine ⟨?_, fun c hc => ?_⟩
            · match b, h2 with
              | [], h2 => simp at h2
              | [_], h2 => simp at h2
              | [_, _], h2 => simp at h2
              | x :: y :: z :: r, h2 =>
                simp only [List.flatMap_cons, putChk, hlen, List.cons_append, List.append_assoc]
                rw [← a1]
                have p1 := y.toNat_lt
                have p2 := z.toNat_lt
                have q0 : chkLen (x :: y :: z :: r) = 256 * y.toNat + z.toNat := rfl
                have q1 : UInt8.ofNat (chkLen (x :: y :: z :: r) / 256) = y := by
                  apply UInt8.toNat_inj.1
                  rw [q0, toNat_ofNat_lt (by omega)]
                  omega
                have q2 : UInt8.ofNat (chkLen (x :: y :: z :: r) % 256) = z := by
                  apply UInt8.toNat_inj.1
                  rw [q0, toNat_ofNat_lt (by omega)]
                  omega
                rw [q1, q2]
                have q3 : (x :: y :: z :: r).drop (3 + chkLen (x :: y :: z :: r)) = r.drop (chkLen (x :: y :: z :: r)) := by rw [← List.drop_drop]; rfl
                rw [q3]
                simp
            · rcases List.mem_cons.1 hc with rfl | hc
              · refine ⟨?_, ?_, by rw [hlen]; exact hlt⟩
                · show 65 ≤ at8 b 0
                  omega
                · show at8 b 0 ≤ 90
                  omega
              · exact a2 c hc
/-- a sound file's chunks -/
def sndChks (l : List UInt8) : Option (List Chk) := if l.take 4 = [83, 78, 68, 49] then chks (l.drop 4) else none
/-! ### samples -/
def rawU (wide : Bool) (l : List UInt8) : List Nat := if wide = true then (List.range (l.length / 2)).map (fun k => at8 l (2 * k) + 256 * at8 l (2 * k + 1)) else (List.range l.length).map (at8 l)
theorem rawU_len (wide : Bool) (l : List UInt8) : (rawU wide l).length = if wide = true then l.length / 2 else l.length := by
  unfold rawU
  split <;> simp
theorem rawU_wide {l : List UInt8} {k : Nat} (h : k < l.length / 2) : (rawU true l)[k]? = some (at8 l (2 * k) + 256 * at8 l (2 * k + 1)) := by
  simp [rawU, h]
theorem rawU_byte {l : List UInt8} {k : Nat} (h : k < l.length) : (rawU false l)[k]? = some (at8 l k) := by
  simp [rawU, h]
/-- stored units as units -/
def unDiff (df : Bool) (ch full : Nat) (l : List Nat) : List Nat := l.foldl (fun acc r => acc ++ [if df = true ∧ ch ≤ acc.length then (r + acc[acc.length - ch]?.getD 0) % full else r]) []
theorem unDiff_nil (df : Bool) (ch full : Nat) : unDiff df ch full [] = [] := rfl
theorem unDiff_snoc (df : Bool) (ch full : Nat) (l : List Nat) (r : Nat) : unDiff df ch full (l ++ [r]) = unDiff df ch full l ++ [if df = true ∧ ch ≤ (unDiff df ch full l).length then (r + (unDiff df ch full l)[(unDiff df ch full l).length - ch]?.getD 0) % full else r] := by
  unfold unDiff
  rw [List.foldl_append]
  rfl
theorem unDiff_len (df : Bool) (ch full : Nat) (l : List Nat) : (unDiff df ch full l).length = l.length := by
  have : ∀ n (l : List Nat), l.length = n → (unDiff df ch full l).length = l.length := by
    intro n
    induction n with
    | zero => intro l h; rw [List.eq_nil_of_length_eq_zero h]; rfl
    | succ n ih =>
      intro l h
      obtain ⟨i, x, rfl⟩ : ∃ i x, l = i ++ [x] := by
        rcases List.eq_nil_or_concat l with rfl | ⟨i, x, rfl⟩
        · simp at h
        · exact ⟨i, x, by simp⟩
      rw [unDiff_snoc, List.length_append, ih i (by simpa using h)]
      simp
  exact this _ l rfl
theorem unDiff_take {df : Bool} {ch full : Nat} {l : List Nat} {k r : Nat} (h : l[k]? = some r) : unDiff df ch full (l.take (k + 1)) = unDiff df ch full (l.take k) ++ [if df = true ∧ ch ≤ k then (r + (unDiff df ch full (l.take k))[k - ch]?.getD 0) % full else r] := by
  have hlt := (List.getElem?_eq_some_iff.1 h).1
  have he := (List.getElem?_eq_some_iff.1 h).2
  have hl : (unDiff df ch full (l.take k)).length = k := by rw [unDiff_len, List.length_take]; omega
  rw [List.take_succ_eq_append_getElem hlt, unDiff_snoc, hl, he]
def fullOf (wide : Bool) : Nat := if wide then 65536 else 256
def valOfU (wide : Bool) (u : Nat) : Int := if wide then (if 32768 ≤ u then (u : Int) - 65536 else u) else ((u : Int) - 128) * 256
def isWide (coding : Nat) : Bool := decide (coding % 2 = 1)
def isDiff (coding : Nat) : Bool := decide (2 ≤ coding)
def sndVals (b : List UInt8) (coding ch : Nat) : List Int := (unDiff (isDiff coding) ch (fullOf (isWide coding)) (rawU (isWide coding) b)).map (valOfU (isWide coding))
def unitOf (wide : Bool) (v : Int) : Nat := if wide then (v % 65536).toNat else ((v / 256 + 128) % 256).toNat
/-- units as stored units -/
def toDiff (df : Bool) (ch full : Nat) (l : List Nat) (i : Nat) : Nat := if df = true ∧ ch ≤ i then (l[i]?.getD 0 + full - l[i - ch]?.getD 0) % full else l[i]?.getD 0
def unitB (wide : Bool) (u : Nat) : List UInt8 := if wide then [UInt8.ofNat (u % 256), UInt8.ofNat (u / 256)] else [UInt8.ofNat u]
def sndBytes (l : List Int) (coding ch : Nat) : List UInt8 := (List.range l.length).flatMap fun i => unitB (isWide coding) (toDiff (isDiff coding) ch (fullOf (isWide coding)) (l.map (unitOf (isWide coding))) i)
end Go.Proofs.Ytjfcpnlacodjjaa
namespace Go.Proofs.Ytjfcpnlacodjjaa
open Go Go.RowKit

/-! ### the chunks F and D, and the others -/
abbrev isFD (c : Chk) : Bool := c.1 == 70 || c.1 == 68
abbrev Note := Int × Chk
/-- the other chunks with their places, from place i on -/
def notesF : Nat → List Chk → List Note
  | _, [] => []
  | i, c :: l => if isFD c = true then notesF (i + 1) l else ((i : Int), c) :: notesF (i + 1) l
theorem notesF_snoc : ∀ (l : List Chk) (i : Nat) (c : Chk), notesF i (l ++ [c]) = notesF i l ++ (if isFD c = true then [] else [(((i + l.length : Nat) : Int), c)])
  | [], i, c => by
    simp only [List.nil_append, notesF, List.length_nil, Nat.add_zero]
  | d :: l, i, c => by
    have e : i + 1 + l.length = i + (d :: l).length := by simp; omega
    simp only [List.cons_append, notesF]
    split
    · rw [notesF_snoc l (i + 1) c, e]
    · rw [notesF_snoc l (i + 1) c, e]; rfl
theorem notesF_ge : ∀ (l : List Chk) (i : Nat), ∀ n ∈ notesF i l, (i : Int) ≤ n.1 ∧ n.1 < ((i + l.length : Nat) : Int) ∧ n.2 ∈ l ∧ isFD n.2 = false
  | [], _, n, h => by simp [notesF] at h
  | c :: l, i, n, h => by
    simp only [notesF] at h
    have hrec : n ∈ notesF (i + 1) l → (i : Int) ≤ n.1 ∧ n.1 < ((i + (c :: l).length : Nat) : Int) ∧ n.2 ∈ c :: l ∧ isFD n.2 = false := fun h => by
      obtain ⟨h1, h2, h3, h4⟩ := notesF_ge l (i + 1) n h
      refine ⟨by omega, by simp only [List.length_cons]; omega, by simp [h3], h4⟩
    split at h
    · exact hrec h
    · rename_i hf
      rcases List.mem_cons.1 h with rfl | h
      · exact ⟨by omega, by simp only [List.length_cons]; omega, by simp, by simpa using hf⟩
      · exact hrec h
theorem notesF_len : ∀ (l : List Chk) (i : Nat), (notesF i l).length + (l.filter isFD).length = l.length
  | [], _ => rfl
  | c :: l, i => by
    have := notesF_len l (i + 1)
    simp only [notesF]
    by_cases h : isFD c = true
    · rw [if_pos h, List.filter_cons_of_pos h]
      simp only [List.length_cons]
      omega
    · rw [if_neg h, List.filter_cons_of_neg h]
      simp only [List.length_cons]
      omega
theorem notesF_inc : ∀ (l : List Chk) (i : Nat), (notesF i l).Pairwise fun a b => a.1 < b.1
  | [], _ => List.Pairwise.nil
  | c :: l, i => by
    simp only [notesF]
    split
    · exact notesF_inc l (i + 1)
    · exact List.pairwise_cons.2 ⟨fun b hb => by have := (notesF_ge l (i + 1) b hb).1; show (i : Int) < _; omega, notesF_inc l (i + 1)⟩
/-- chunks put together again: n of them, from place i on -/
def weave : Nat → Nat → List Note → List Chk → List Chk
  | 0, _, _, _ => []
  | n + 1, i, [], own => own.head?.getD (0, []) :: weave n (i + 1) [] own.tail
  | n + 1, i, m :: r, own => if m.1 = (i : Int) then m.2 :: weave n (i + 1) r own else own.head?.getD (0, []) :: weave n (i + 1) (m :: r) own.tail
theorem weave_notes : ∀ (l : List Chk) (i : Nat), weave l.length i (notesF i l) (l.filter isFD) = l
  | [], _ => rfl
  | c :: l, i => by
    have ih := weave_notes l (i + 1)
    simp only [notesF, List.length_cons]
    by_cases h : isFD c = true
    · rw [if_pos h, List.filter_cons_of_pos h]
      cases hn : notesF (i + 1) l with
      | nil =>
        rw [hn] at ih
        simp only [weave, List.head?_cons, Option.getD_some, List.tail_cons, ih]
      | cons m r =>
        have := (notesF_ge l (i + 1) m (by rw [hn]; simp)).1
        rw [hn] at ih
        simp only [weave]
        rw [if_neg (by omega)]
        simp only [List.head?_cons, Option.getD_some, List.tail_cons, ih]
    · rw [if_neg h, List.filter_cons_of_neg h]
      simp only [weave]
      rw [if_pos trivial, ih]
theorem weave_len : ∀ (n i : Nat) (l : List Note) (o : List Chk), (weave n i l o).length = n
  | 0, _, _, _ => rfl
  | n + 1, i, [], o => by simp [weave, weave_len n]
  | n + 1, i, m :: r, o => by
    simp only [weave]
    split <;> simp [weave_len n]
/-- as long as there are places enough, weaving gives the notes back -/
theorem weave_back : ∀ (n i : Nat) (l : List Note) (o : List Chk), l.length + o.length = n → l.Pairwise (fun a b => a.1 < b.1) → (∀ m ∈ l, (i : Int) ≤ m.1 ∧ m.1 < ((i + n : Nat) : Int) ∧ isFD m.2 = false) → (∀ c ∈ o, isFD c = true) →
    notesF i (weave n i l o) = l ∧ (weave n i l o).filter isFD = o
  | 0, i, l, o, hn, _, _, _ => by
    have h1 : l = [] := List.eq_nil_of_length_eq_zero (by omega)
    have h2 : o = [] := List.eq_nil_of_length_eq_zero (by omega)
    subst h1 h2
    exact ⟨rfl, rfl⟩
  | n + 1, i, [], o, hn, hp, hl, ho => by
    obtain ⟨c, o, rfl⟩ : ∃ c o', o = c :: o' := by
      cases o with
      | nil => simp at hn
      | cons c o => exact ⟨c, o, rfl⟩
    have hc := ho c (by simp)
    obtain ⟨h1, h2⟩ := weave_back n (i + 1) [] o (by simpa using hn) List.Pairwise.nil (by simp) fun x hx => ho x (by simp [hx])
    show notesF i (c :: weave n (i + 1) [] o) = [] ∧ (c :: weave n (i + 1) [] o).filter isFD = c :: o
    simp only [notesF]
    rw [if_pos hc, List.filter_cons_of_pos hc, h1, h2]
    exact ⟨rfl, rfl⟩
  | n + 1, i, m :: r, o, hn, hp, hl, ho => by
    obtain ⟨q1, q2⟩ := List.pairwise_cons.1 hp
    obtain ⟨m1, m2, m3⟩ := hl m (by simp)
    simp only [weave]
    by_cases hm : m.1 = (i : Int)
    · rw [if_pos hm]
      obtain ⟨h1, h2⟩ := weave_back n (i + 1) r o (by simp at hn; omega) q2 (fun x hx => by
        obtain ⟨a1, a2, a3⟩ := hl x (by simp [hx])
        have := q1 x hx
        exact ⟨by omega, by omega, a3⟩) ho
      simp only [notesF]
      rw [if_neg (by rw [m3]; simp), List.filter_cons_of_neg (by rw [m3]; simp), h1, h2, ← hm]
      exact ⟨rfl, rfl⟩
    · rw [if_neg hm]
      have key : ∀ (l : List Note) (a b : Int), l.Pairwise (fun a b => a.1 < b.1) → (∀ m ∈ l, a ≤ m.1 ∧ m.1 < b) → (l.length : Int) ≤ b - a ∨ l = [] := by
        intro l
        induction l with
        | nil => intro a b _ _; exact .inr rfl
        | cons m r ih =>
          intro a b hp hl
          obtain ⟨q1, q2⟩ := List.pairwise_cons.1 hp
          have h0 := hl m (by simp)
          rcases ih (m.1 + 1) b q2 fun x hx => ⟨by have := q1 x hx; omega, (hl x (by simp [hx])).2⟩ with h | h
          · left; simp only [List.length_cons]; omega
          · left; subst h; simp only [List.length_cons, List.length_nil]; omega
      have hk := key (m :: r) (i + 1 : Int) ((i + (n + 1) : Nat) : Int) hp fun x hx => by
        obtain ⟨a1, a2, a3⟩ := hl x hx
        refine ⟨?_, a2⟩
        rcases List.mem_cons.1 hx with rfl | hx
        · omega
        · have := q1 x hx; omega
      obtain ⟨c, o, rfl⟩ : ∃ c o', o = c :: o' := by
        cases o with
        | nil =>
          exfalso
          rcases hk with hk | hk
          · simp only [List.length_cons, List.length_nil] at hn hk; omega
          · cases hk
        | cons c o => exact ⟨c, o, rfl⟩
      have hc := ho c (by simp)
      obtain ⟨h1, h2⟩ := weave_back n (i + 1) (m :: r) o (by simp at hn ⊢; omega) hp (fun x hx => by
        obtain ⟨a1, a2, a3⟩ := hl x hx
        refine ⟨?_, by omega, a3⟩
        rcases List.mem_cons.1 hx with rfl | hx
        · omega
        · have := q1 x hx; omega) fun x hx => ho x (by simp [hx])
      show notesF i (c :: weave n (i + 1) (m :: r) o) = m :: r ∧ (c :: weave n (i + 1) (m :: r) o).filter isFD = c :: o
      simp only [notesF]
      rw [if_pos hc, List.filter_cons_of_pos hc, h1, h2]
      exact ⟨rfl, rfl⟩
theorem weave_mem : ∀ (n i : Nat) (l : List Note) (o : List Chk), l.length + o.length = n → l.Pairwise (fun a b => a.1 < b.1) → (∀ m ∈ l, (i : Int) ≤ m.1 ∧ m.1 < ((i + n : Nat) : Int) ∧ isFD m.2 = false) → (∀ c ∈ o, isFD c = true) →
    ∀ c ∈ weave n i l o, c ∈ l.map (·.2) ∨ c ∈ o := by
  intro n i l o h1 h2 h3 h4 c hc
  obtain ⟨a, b⟩ := weave_back n i l o h1 h2 h3 h4
  by_cases hf : isFD c = true
  · right
    rw [← b]
    exact List.mem_filter.2 ⟨hc, hf⟩
  · left
    rw [← a]
    have : ∀ (l : List Chk) (i : Nat), c ∈ l → c ∈ (notesF i l).map (·.2) := by
      intro l
      induction l with
      | nil => intro i h; simp at h
      | cons d l ih =>
        intro i h
        simp only [notesF]
        rcases List.mem_cons.1 h with rfl | h
        · rw [if_neg hf]; simp
        · split
          · exact ih _ h
          · exact List.mem_cons_of_mem _ (ih _ h)
    exact this _ _ hc
/-! ### residues -/
def noteB (n : Note) : List UInt8 := putN n.1 ++ n.2.1 :: putC n.2.2
def noteAt (l : List UInt8) (p : Nat) : Got Note :=
  match numAt l p with
  | .bad c i => .bad c i
  | .ok n q => match l[q]? with
    | none => .bad 15 q
    | some x => match chunkAt l (q + 1) with
      | .bad c i => .bad c i
      | .ok d r => .ok (n, x, d) r
theorem noteAt_put {n : Note} (h1 : -9223372036854775808 ≤ n.1 ∧ n.1 ≤ 9223372036854775807) (h2 : n.2.2.length ≤ 1099511627776) {l r : List UInt8} {p : Nat} (hp : p ≤ l.length) (h : l.drop p = noteB n ++ r) : noteAt l p = .ok n (p + (noteB n).length) := by
  have e : l = l.take p ++ (noteB n ++ r) := by rw [← h, List.take_append_drop]
  have hpl : (l.take p).length = p := by simp; omega
  unfold noteB at e
  have n1 := numAt_put h1.1 h1.2 (l.take p) (n.2.1 :: putC n.2.2 ++ r)
  rw [hpl, show l.take p ++ (putN n.1 ++ (n.2.1 :: putC n.2.2 ++ r)) = l by rw [List.append_assoc] at e; exact e.symm] at n1
  have e2 : l = (l.take p ++ (putN n.1 ++ [n.2.1])) ++ (putC n.2.2 ++ r) := by
    conv => lhs; rw [e]
    simp
  have hq : l[p + (putN n.1).length]? = some n.2.1 := by
    rw [e2, List.getElem?_append_left (by simp; omega), List.getElem?_append_right (by omega), hpl]
    simp
  have n2 := chunkAt_put h2 (l.take p ++ (putN n.1 ++ [n.2.1])) r
  rw [← e2, show (l.take p ++ (putN n.1 ++ [n.2.1])).length = p + (putN n.1).length + 1 by simp only [List.length_append, hpl, List.length_singleton]; omega] at n2
  unfold noteAt
  rw [n1]
  simp only
  rw [hq]
  simp only
  rw [n2]
  simp only [noteB, List.length_append, List.length_cons]
  congr 1
  omega
theorem noteAt_ok {l : List UInt8} {p q : Nat} {n : Note} (hp : p ≤ l.length) (h : noteAt l p = .ok n q) : p ≤ q ∧ q ≤ l.length ∧ l.drop p = noteB n ++ l.drop q := by
  unfold noteAt at h
  split at h
  · cases h
  · rename_i a q1 h1
    split at h
    · cases h
    · rename_i x h2
      split at h
      · cases h
      · rename_i d r h3
        cases h
        obtain ⟨a1, a2, _⟩ := numAt_ok hp h1
        have a4 := numAt_split hp h1
        have hlt : q1 < l.length := (List.getElem?_eq_some_iff.1 h2).1
        obtain ⟨b1, b2, b3⟩ := chunkAt_ok (by omega) h3
        refine ⟨by omega, b2, ?_⟩
        have hx : l.drop q1 = x :: l.drop (q1 + 1) := by
          rw [List.drop_eq_getElem_cons hlt]
          have := (List.getElem?_eq_some_iff.1 h2).2
          rw [this]
        rw [a4, hx, b3]
        simp [noteB]
/-- a note of a residue with m notes, behind another one's place -/
structure NoteOk (m : Nat) (last : Int) (n : Note) : Prop where
  lo : 65 ≤ n.2.1.toNat
  hi : n.2.1.toNat ≤ 90
  ne : isFD n.2 = false
  at1 : last < n.1
  at2 : n.1 < m + 2
instance (m : Nat) (last : Int) (n : Note) : Decidable (NoteOk m last n) := decidable_of_iff (65 ≤ n.2.1.toNat ∧ n.2.1.toNat ≤ 90 ∧ isFD n.2 = false ∧ last < n.1 ∧ n.1 < m + 2) ⟨fun ⟨a, b, c, d, e⟩ => ⟨a, b, c, d, e⟩, fun ⟨a, b, c, d, e⟩ => ⟨a, b, c, d, e⟩⟩
def notesOk (m : Nat) (last : Int) : List Note → Bool
  | [] => true
  | n :: r => decide (NoteOk m last n) && notesOk m n.1 r
def lastOf (last : Int) : List Note → Int
  | [] => last
  | n :: r => lastOf n.1 r
theorem lastOf_snoc : ∀ (l : List Note) (a : Int) (n : Note), lastOf a (l ++ [n]) = n.1
  | [], _, _ => rfl
  | m :: l, _, n => lastOf_snoc l m.1 n
theorem notesOk_append {m : Nat} : ∀ (l k : List Note) (a : Int), notesOk m a (l ++ k) = (notesOk m a l && notesOk m (lastOf a l) k)
  | [], _, _ => by simp [notesOk, lastOf]
  | n :: l, k, a => by simp only [List.cons_append, notesOk, lastOf, notesOk_append l k n.1, Bool.and_assoc]
theorem notesOk_snoc {m : Nat} (l : List Note) (a : Int) (n : Note) : notesOk m a (l ++ [n]) = (notesOk m a l && decide (NoteOk m (lastOf a l) n)) := by
  rw [notesOk_append]
  simp [notesOk]
theorem notesOk_false {m : Nat} {l : List Note} {a : Int} {k : Nat} (hk : k < l.length) (h : ¬ NoteOk m (lastOf a (l.take k)) l[k]) : notesOk m a l = false := by
  conv => lhs; rw [← List.take_append_drop k l, List.drop_eq_getElem_cons hk]
  rw [notesOk_append]
  simp [notesOk, h]
theorem notesOk_all {m : Nat} : ∀ {l : List Note} {a : Int}, notesOk m a l = true → l.Pairwise (fun a b => a.1 < b.1) ∧ ∀ n ∈ l, a < n.1 ∧ n.1 < m + 2 ∧ isFD n.2 = false ∧ 65 ≤ n.2.1.toNat ∧ n.2.1.toNat ≤ 90
  | [], _, _ => ⟨List.Pairwise.nil, by simp⟩
  | n :: l, a, h => by
    simp only [notesOk, Bool.and_eq_true, decide_eq_true_eq] at h
    obtain ⟨h1, h2⟩ := h
    obtain ⟨g1, g2⟩ := notesOk_all h2
    refine ⟨List.pairwise_cons.2 ⟨fun b hb => (g2 b hb).1, g1⟩, fun x hx => ?_⟩
    rcases List.mem_cons.1 hx with rfl | hx
    · exact ⟨h1.at1, h1.at2, h1.ne, h1.lo, h1.hi⟩
    · obtain ⟨q1, q2⟩ := g2 x hx
      have := h1.at1
      exact ⟨by omega, q2⟩
theorem notesOk_of {m : Nat} : ∀ {l : List Note} {a : Int}, l.Pairwise (fun a b => a.1 < b.1) → (∀ n ∈ l, a < n.1 ∧ n.1 < m + 2 ∧ isFD n.2 = false ∧ 65 ≤ n.2.1.toNat ∧ n.2.1.toNat ≤ 90) → notesOk m a l = true
  | [], _, _, _ => rfl
  | n :: l, a, hp, h => by
    obtain ⟨q1, q2⟩ := List.pairwise_cons.1 hp
    obtain ⟨a1, a2, a3, a4, a5⟩ := h n (by simp)
    simp only [notesOk, Bool.and_eq_true, decide_eq_true_eq]
    exact ⟨⟨a4, a5, a3, a1, a2⟩, notesOk_of q2 fun x hx => ⟨q1 x hx, (h x (by simp [hx])).2⟩⟩
def sndRes (coding : Nat) (ns : List Note) : List UInt8 := if coding = 1 ∧ ns = [] then [] else putN coding ++ putL noteB ns
/-- what a residue tells -/
def sndRd (b : List UInt8) : Option (Nat × List Note) :=
  if b = [] then some (1, []) else match numAt b 0 with
    | .bad _ _ => none
    | .ok c p => if c < 0 ∨ 4 ≤ c then none else match listAt b (noteAt b) 1000 p with
      | .bad _ _ => none
      | .ok ns q => if q ≠ b.length ∨ (c = 1 ∧ ns = []) then none else if notesOk ns.length (-1) ns = true then some (c.toNat, ns) else none
theorem sndRd_res {coding : Nat} {ns : List Note} (hc : coding < 4) (hl : ns.length ≤ 1000) (hok : notesOk ns.length (-1) ns = true) (hd : ∀ n ∈ ns, n.2.2.length ≤ 1099511627776) : sndRd (sndRes coding ns) = some (coding, ns) := by
  unfold sndRes
  split
  · rename_i h
    obtain ⟨rfl, rfl⟩ := h
    rfl
  · rename_i hne
    obtain ⟨b, hb⟩ : ∃ b, b = putN (coding : Int) ++ putL noteB ns := ⟨_, rfl⟩
    rw [← hb]
    have hp := putU_len (zz (coding : Int))
    have hbl : b ≠ [] := by
      intro h
      rw [h] at hb
      have := congrArg List.length hb
      simp only [List.length_nil, List.length_append, putN] at this
      omega
    have n1 := numAt_put (n := (coding : Int)) (by omega) (by omega) [] (putL noteB ns)
    simp only [List.nil_append, ← hb, List.length_nil, Nat.zero_add] at n1
    have n2 := numAt_put (n := (ns.length : Int)) (by omega) (by omega) (putN (coding : Int)) (ns.flatMap noteB)
    have hb2 : putN (coding : Int) ++ (putN (ns.length : Int) ++ ns.flatMap noteB) = b := hb.symm
    rw [hb2] at n2
    have hbl2 := congrArg List.length hb2
    simp only [List.length_append] at hbl2
    have hall := (notesOk_all hok).2
    have n3 := manyAt_put (f := noteB) (b := b) (one := noteAt b) ns ((putN (coding : Int)).length + (putN (ns.length : Int)).length) (by omega) (fun x hx q r hq h => noteAt_put (by
      obtain ⟨a1, a2, _⟩ := hall x hx
      constructor <;> omega) (hd x hx) hq h) [] (by
        rw [← hb2, ← List.append_assoc, ← List.length_append, List.drop_left]
        simp)
    have n4 : listAt b (noteAt b) 1000 (putN (coding : Int)).length = .ok ns b.length := by
      unfold listAt
      rw [n2]
      simp only
      rw [if_neg (by omega), Int.toNat_natCast, n3]
      congr 1
      omega
    unfold sndRd
    rw [if_neg hbl, n1]
    simp only
    rw [if_neg (by omega), n4]
    simp only
    rw [if_neg (by
      rintro (h | ⟨h1, h2⟩)
      · exact h rfl
      · exact hne ⟨by omega, h2⟩), if_pos hok, Int.toNat_natCast]
theorem sndRd_some {b : List UInt8} {coding : Nat} {ns : List Note} (h : sndRd b = some (coding, ns)) : coding < 4 ∧ ns.length ≤ 1000 ∧ notesOk ns.length (-1) ns = true ∧ b = sndRes coding ns ∧ ∀ n ∈ ns, n.2.2.length ≤ b.length := by
  unfold sndRd at h
  split at h
  · rename_i hb
    cases h
    subst hb
    exact ⟨by omega, by simp, rfl, rfl, by simp⟩
  · split at h
    · cases h
    · rename_i c p h1
      obtain ⟨a1, a2, _⟩ := numAt_ok (Nat.zero_le _) h1
      have a3 := numAt_split (Nat.zero_le _) h1
      rw [List.drop_zero] at a3
      split at h
      · cases h
      · rename_i hc
        split at h
        · cases h
        · rename_i ns' q h2
          split at h
          · cases h
          · rename_i h3
            split at h
            · rename_i hok
              cases h
              unfold listAt at h2
              split at h2
              · cases h2
              · rename_i n q' h4
                obtain ⟨b1, b2, _⟩ := numAt_ok a2 h4
                have b3 := numAt_split a2 h4
                split at h2
                · cases h2
                · rename_i hn
                  obtain ⟨c1, c2, c3, c4⟩ := manyAt_ok (f := noteB) (fun p q x hp h => noteAt_ok hp h) _ _ _ _ b2 h2
                  have hq : q = b.length := Decidable.byContradiction fun hne => h3 (.inl hne)
                  subst hq
                  rw [List.drop_length, List.append_nil] at c4
                  obtain ⟨N, rfl⟩ : ∃ N : Nat, n = N := ⟨n.toNat, by omega⟩
                  obtain ⟨C, rfl⟩ : ∃ C : Nat, c = C := ⟨c.toNat, by omega⟩
                  rw [Int.toNat_natCast] at c1 ⊢
                  have hbe : b = putN (C : Int) ++ putL noteB ns := by
                    conv => lhs; rw [a3, b3, c4]
                    rw [putL, c1]
                  refine ⟨by omega, by omega, hok, ?_, fun n hn => ?_⟩
                  · rw [sndRes, if_neg, ← hbe]
                    rintro ⟨h5, h6⟩
                    exact h3 (.inr ⟨by omega, h6⟩)
                  · have h5 : n.2.2.length ≤ (noteB n).length := by simp only [noteB, putC, List.length_append, List.length_cons]; omega
                    have h6 : (noteB n).length ≤ (ns.flatMap noteB).length := by
                      obtain ⟨s, t, e⟩ := List.append_of_mem hn
                      rw [e]
                      simp only [List.flatMap_append, List.flatMap_cons, List.length_append]
                      omega
                    have h7 := congrArg List.length hbe
                    simp only [putL, List.length_append] at h7
                    omega
            · cases h
end Go.Proofs.Ytjfcpnlacodjjaa
