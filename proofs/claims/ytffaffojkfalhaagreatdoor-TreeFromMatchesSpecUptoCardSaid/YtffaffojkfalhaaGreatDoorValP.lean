/-
  Plain values: plain facts.
-/
import Derived.Test.YtffaffojkfalhaaGreatDoorWirP
import Derived.Test.YtffaffojkfalhaaGreatDoorVcS
import Derived.Test.YtffaffojkfalhaaGreatDoorWirA
namespace Go.Proofs.YtffaffojkfalhaaGreatDoor
open Go Go.RowKit

inductive Val where
  | mk (kind num : Int) (bytes : List UInt8) (names : List (List UInt8)) (parts : List Val)
namespace Val
abbrev kind : Val → Int | .mk k _ _ _ _ => k
abbrev num : Val → Int | .mk _ n _ _ _ => n
abbrev bytes : Val → List UInt8 | .mk _ _ b _ _ => b
abbrev names : Val → List (List UInt8) | .mk _ _ _ s _ => s
abbrev parts : Val → List Val | .mk _ _ _ _ p => p
end Val
instance : Inhabited Val := ⟨.mk 0 0 [] [] []⟩
theorem Val.eta (v : Val) : v = .mk v.kind v.num v.bytes v.names v.parts := by cases v; rfl
theorem Val.part_lt {v p : Val} (h : p ∈ v.parts) : SizeOf.sizeOf p < SizeOf.sizeOf v := by
  cases v
  have := List.sizeOf_lt_of_mem h
  simp only [Val.mk.sizeOf_spec]
  simp only [Val.parts] at this
  omega
/-- the code of a node by itself -/
def formBad (v : Val) : Prop := (v.num ≠ 0 ∧ v.kind ≠ 1) ∨ (0 < v.bytes.length ∧ v.kind ≠ 2) ∨ (0 < v.names.length ∧ v.kind ≠ 4) ∨ (0 < v.parts.length ∧ v.kind < 3) ∨ (v.kind = 4 ∧ v.names.length ≠ v.parts.length)
instance (v : Val) : Decidable (formBad v) := by unfold formBad; infer_instance
def nodeCode (v : Val) : Int :=
  if ¬ (1 ≤ v.kind ∧ v.kind ≤ 4) then 5 else if formBad v then 6 else if 600 < v.parts.length then 14 else if v.names.any (fun s => !nameOk s) = true then 7 else if ¬ v.names.Nodup then 8 else 0
/-- what is wrong with a node of a number and a depth -/
def atCode (v : Val) (n d : Nat) : Int := if 600 ≤ n ∨ 10 ≤ d then 2 else nodeCode v
/-- the nodes ahead of their parts, with their depths -/
def pre (d : Nat) : Val → List (Val × Nat)
  | .mk k n b s ps => (.mk k n b s ps, d) :: (if 10 < d then [] else (ps.attach.map fun p => pre (d + 1) p.1).take 601).flatten
decreasing_by
  have := List.sizeOf_lt_of_mem p.2
  simp only [Val.mk.sizeOf_spec]
  omega
theorem pre_eq (d : Nat) (v : Val) : pre d v = (v, d) :: (if 10 < d then [] else ((v.parts.take 601).flatMap (pre (d + 1)))) := by
  cases v with
  | mk k n b s ps =>
    rw [pre]
    simp only [Val.parts]
    congr 1
    split
    · rfl
    · rw [List.flatMap_def, List.map_take]
      congr 2
      simp [List.map_attach_eq_pmap]
/-- the first fault of a list of nodes -/
def scan : List (Val × Nat) → Nat → Except (Int × Int) Nat
  | [], n => .ok n
  | (v, d) :: r, n => if atCode v n d ≠ 0 then .error (atCode v n d, n) else scan r (n + 1)
theorem scan_append : ∀ (a b : List (Val × Nat)) (n : Nat), scan (a ++ b) n = match scan a n with
    | .ok m => scan b m
    | .error e => .error e
  | [], b, n => rfl
  | (v, d) :: a, b, n => by
    simp only [List.cons_append, scan]
    split
    · rfl
    · exact scan_append a b (n + 1)
/-- one value, as the program checks it -/
def chk (d : Nat) : Val → Nat → Except (Int × Int) Nat := fun v n => scan (pre d v) n
def chkL (d : Nat) (ps : List Val) (n : Nat) : Except (Int × Int) Nat := scan (ps.flatMap (pre d)) n
theorem chkL_nil (d n : Nat) : chkL d [] n = .ok n := rfl
theorem chkL_snoc (d : Nat) (ps : List Val) (p : Val) (n : Nat) : chkL d (ps ++ [p]) n = match chkL d ps n with
    | .ok m => chk d p m
    | .error e => .error e := by
  unfold chkL chk
  rw [List.flatMap_append, scan_append]
  simp
theorem nodeCode_zero {v : Val} (h : nodeCode v = 0) : (1 ≤ v.kind ∧ v.kind ≤ 4) ∧ ¬ formBad v ∧ v.parts.length ≤ 600 ∧ (∀ s ∈ v.names, nameOk s = true) ∧ v.names.Nodup := by
  unfold nodeCode at h
  split at h
  · cases h
  · rename_i h1
    split at h
    · cases h
    · rename_i h2
      split at h
      · cases h
      · rename_i h3
        split at h
        · cases h
        · rename_i h4
          split at h
          · cases h
          · rename_i h5
            refine ⟨Decidable.not_not.1 h1, h2, by omega, fun s hs => ?_, Decidable.not_not.1 h5⟩
            simp only [List.any_eq_true, Bool.not_eq_true'] at h4
            exact Decidable.byContradiction fun hn => h4 ⟨s, hs, by simpa using hn⟩
theorem chk_eq (d : Nat) (v : Val) (n : Nat) : chk d v n = if atCode v n d ≠ 0 then .error (atCode v n d, n) else chkL (d + 1) v.parts (n + 1) := by
  unfold chk
  rw [pre_eq]
  simp only [scan]
  split
  · rfl
  · rename_i h
    have h := Decidable.not_not.1 h
    unfold atCode at h
    split at h
    · cases h
    · rename_i h1
      obtain ⟨_, _, h2, _⟩ := nodeCode_zero h
      rw [if_neg (by omega), List.take_of_length_le (by omega)]
      rfl
theorem scan_bounds : ∀ (l : List (Val × Nat)) (n m : Nat), scan l n = .ok m → m = n + l.length ∧ ∀ i v d, l[i]? = some (v, d) → atCode v (n + i) d = 0
  | [], n, m, h => by
    simp only [scan] at h
    cases h
    simp
  | (v, d) :: l, n, m, h => by
    simp only [scan] at h
    split at h
    · cases h
    · rename_i h1
      obtain ⟨h2, h3⟩ := scan_bounds l (n + 1) m h
      refine ⟨by simp; omega, fun i v' d' hi => ?_⟩
      cases i with
      | zero =>
        simp at hi
        obtain ⟨rfl, rfl⟩ := hi
        exact Decidable.not_not.1 h1
      | succ i =>
        simp at hi
        have := h3 i v' d' hi
        rwa [show n + (i + 1) = n + 1 + i by omega]
/-- only 601 nodes are looked at -/
theorem scan_take (l : List (Val × Nat)) : scan (l.take 601) 0 = scan l 0 := by
  by_cases hl : l.length ≤ 601
  · rw [List.take_of_length_le hl]
  · conv => rhs; rw [← List.take_append_drop 601 l, scan_append]
    cases h : scan (l.take 601) 0 with
    | error e => rfl
    | ok m =>
      exfalso
      obtain ⟨_, h2⟩ := scan_bounds _ _ _ h
      have hlen : (l.take 601).length = 601 := by simp; omega
      have h600 : 600 < (l.take 601).length := by omega
      have := h2 600 ((l.take 601)[600]).1 ((l.take 601)[600]).2 (by rw [List.getElem?_eq_getElem h600])
      simp [atCode] at this
end Go.Proofs.YtffaffojkfalhaaGreatDoor
namespace Go.Proofs.YtffaffojkfalhaaGreatDoor
open Go Go.RowKit

/-- every part is small -/
inductive VB (B : Nat) : Val → Prop where
  | mk {v : Val} : I64 v.kind → I64 v.num → v.bytes.length ≤ B → v.names.length ≤ B → (∀ s ∈ v.names, s.length ≤ B) → v.parts.length ≤ B → (∀ p ∈ v.parts, VB B p) → VB B v
theorem VB.kind {B : Nat} {v : Val} : VB B v → I64 v.kind | .mk h _ _ _ _ _ _ => h
theorem VB.num {B : Nat} {v : Val} : VB B v → I64 v.num | .mk _ h _ _ _ _ _ => h
theorem VB.bytes {B : Nat} {v : Val} : VB B v → v.bytes.length ≤ B | .mk _ _ h _ _ _ _ => h
theorem VB.names {B : Nat} {v : Val} : VB B v → v.names.length ≤ B | .mk _ _ _ h _ _ _ => h
theorem VB.name {B : Nat} {v : Val} : VB B v → ∀ s ∈ v.names, s.length ≤ B | .mk _ _ _ _ h _ _ => h
theorem VB.parts {B : Nat} {v : Val} : VB B v → v.parts.length ≤ B | .mk _ _ _ _ _ h _ => h
theorem VB.part {B : Nat} {v : Val} : VB B v → ∀ p ∈ v.parts, VB B p | .mk _ _ _ _ _ _ h => h
/-- the encoding -/
def enc : Val → List UInt8
  | .mk k n b s ps => putN k ++ (if k = 1 then putN n else if k = 2 then putC b else putN ps.length ++ ps.attach.zipIdx.flatMap fun p => (if k = 4 then putC (s.getD p.2 []) else []) ++ enc p.1.1)
decreasing_by
  have := List.sizeOf_lt_of_mem p.1.2
  simp only [Val.mk.sizeOf_spec]
  omega
/-- the encodings of parts, with their names -/
def encL (k : Int) (s : List (List UInt8)) (ps : List Val) : List UInt8 := ps.zipIdx.flatMap fun p => (if k = 4 then putC (s.getD p.2 []) else []) ++ enc p.1
theorem enc_eq (v : Val) : enc v = putN v.kind ++ (if v.kind = 1 then putN v.num else if v.kind = 2 then putC v.bytes else putN v.parts.length ++ encL v.kind v.names v.parts) := by
  cases v with
  | mk k n b s ps =>
    rw [enc]
    simp only [Val.parts]
    congr 1
    split
    · rfl
    · split
      · rfl
      · congr 1
        unfold encL
        conv => rhs; rw [← List.attach_map_subtype_val ps, List.zipIdx_map, List.flatMap_map]
        rfl
theorem encL_nil (k : Int) (s : List (List UInt8)) : encL k s [] = [] := rfl
theorem encL_snoc (k : Int) (s : List (List UInt8)) (ps : List Val) (p : Val) : encL k s (ps ++ [p]) = encL k s ps ++ ((if k = 4 then putC (s.getD ps.length []) else []) ++ enc p) := by
  unfold encL
  rw [List.zipIdx_append, List.flatMap_append]
  simp
/-- the bytes of a node without its parts -/
def nodeSzX (v : Val) : Nat := if v.kind = 1 then 1 + (putN v.num).length else if v.kind = 2 then 1 + (putC v.bytes).length else 1 + (putN v.parts.length).length + (v.names.map fun s => 1 + s.length).sum
def nodeSz (v : Val) : Nat := if v.kind = 1 then 1 + (putN v.num).length else if v.kind = 2 then (if 4000 < v.bytes.length then 4001 else 1 + (putC v.bytes).length) else 1 + (putN v.parts.length).length + (v.names.map fun s => 1 + s.length).sum
def szX (l : List (Val × Nat)) : Nat := (l.map fun p => nodeSzX p.1).sum
def sz (l : List (Val × Nat)) : Nat := (l.map fun p => nodeSz p.1).sum
theorem putC_ge (b : List UInt8) : b.length ≤ (putC b).length := by simp [putC]
theorem nodeSz_eq (v : Val) : nodeSz v = nodeSzX v ∨ (4000 < nodeSz v ∧ 4000 < nodeSzX v) := by
  unfold nodeSz nodeSzX
  have := putC_ge v.bytes
  split
  · exact .inl rfl
  · split
    · split
      · exact .inr ⟨by omega, by omega⟩
      · exact .inl rfl
    · exact .inl rfl
theorem sz_eq : ∀ (l : List (Val × Nat)), sz l = szX l ∨ (4000 < sz l ∧ 4000 < szX l)
  | [] => .inl rfl
  | p :: l => by
    have h1 := nodeSz_eq p.1
    have h2 := sz_eq l
    simp only [sz, szX, List.map_cons, List.sum_cons] at h2 ⊢
    omega
theorem sz_iff (l : List (Val × Nat)) : 4000 < sz l ↔ 4000 < szX l := by
  have := sz_eq l
  omega
theorem szX_append (a b : List (Val × Nat)) : szX (a ++ b) = szX a + szX b := by simp [szX]
theorem putN_one {n : Int} (h0 : 0 ≤ n) (h : n < 64) : (putN n).length = 1 := by
  unfold putN zz
  rw [if_pos h0, putU_small (by omega)]
  rfl
theorem nameOk_len {s : List UInt8} (h : nameOk s = true) : s.length ≤ 32 := by
  unfold nameOk at h
  simp at h
  omega
theorem putC_name {s : List UInt8} (h : nameOk s = true) : (putC s).length = 1 + s.length := by
  have := nameOk_len h
  rw [putC, List.length_append, putN_one (by omega) (by omega)]
theorem chkL_cons_ok {d n m : Nat} {p : Val} {ps : List Val} (h : chkL d (p :: ps) n = .ok m) : ∃ k, chk d p n = .ok k ∧ chkL d ps k = .ok m := by
  unfold chkL at h
  rw [List.flatMap_cons, scan_append] at h
  split at h
  · rename_i k hk
    exact ⟨k, hk, h⟩
  · cases h
theorem encL_len {k : Int} {s : List (List UInt8)} : ∀ (ps : List Val) (i : Nat), (k = 4 → i + ps.length ≤ s.length ∧ ∀ x ∈ s, nameOk x = true) →
    ((ps.zipIdx i).flatMap fun p => (if k = 4 then putC (s.getD p.2 []) else []) ++ enc p.1).length = (ps.map fun p => (enc p).length).sum + (if k = 4 then ((s.drop i).take ps.length).map (fun x => 1 + x.length) else []).sum
  | [], i, _ => by simp
  | p :: ps, i, h => by
    have ih := encL_len ps (i + 1) (fun hk => by have := h hk; simp at this; exact ⟨by omega, this.2⟩)
    simp only [List.zipIdx_cons, List.flatMap_cons, List.length_append, List.map_cons, List.sum_cons, ih]
    by_cases hk : k = 4
    · obtain ⟨h1, h2⟩ := h hk
      simp only [List.length_cons] at h1
      have hi : i < s.length := by omega
      have hn := h2 _ (List.getElem_mem hi)
      rw [if_pos hk, if_pos hk, if_pos hk, List.drop_eq_getElem_cons hi]
      simp only [List.length_cons, List.take_succ_cons, List.map_cons, List.sum_cons]
      have : s.getD i [] = s[i] := by simp [List.getD, hi]
      rw [this, putC_name hn]
      omega
    · rw [if_neg hk, if_neg hk, if_neg hk]
      simp
theorem szX_flat (d : Nat) : ∀ (ps : List Val), szX (ps.flatMap (pre d)) = (ps.map fun p => szX (pre d p)).sum
  | [] => rfl
  | p :: ps => by rw [List.flatMap_cons, szX_append, szX_flat d ps]; simp
theorem chkL_all {d : Nat} : ∀ {ps : List Val} {n m : Nat}, chkL d ps n = .ok m → ∀ p ∈ ps, ∃ a b, chk d p a = .ok b
  | [], _, _, _, p, hp => by simp at hp
  | q :: ps, n, m, h, p, hp => by
    obtain ⟨k, h1, h2⟩ := chkL_cons_ok h
    rcases List.mem_cons.1 hp with rfl | hp
    · exact ⟨n, k, h1⟩
    · exact chkL_all h2 p hp
/-- what a valid value's check tells about its root -/
theorem chk_ok {d n m : Nat} {v : Val} (h : chk d v n = .ok m) : n < 600 ∧ d < 10 ∧ (1 ≤ v.kind ∧ v.kind ≤ 4) ∧ ¬ formBad v ∧ v.parts.length ≤ 600 ∧ (∀ s ∈ v.names, nameOk s = true) ∧ v.names.Nodup ∧ chkL (d + 1) v.parts (n + 1) = .ok m := by
  rw [chk_eq] at h
  split at h
  · cases h
  · rename_i h0
    have h0 := Decidable.not_not.1 h0
    unfold atCode at h0
    split at h0
    · cases h0
    · obtain ⟨a, b, c, e, f⟩ := nodeCode_zero h0
      exact ⟨by omega, by omega, a, b, c, e, f, h⟩
/-- the size of a valid value's encoding -/
theorem enc_len (v : Val) : ∀ {d n m : Nat}, chk d v n = .ok m → (enc v).length = szX (pre d v) := by
  induction v using (measure (fun v : Val => SizeOf.sizeOf v)).wf.induction with
  | _ v ih =>
    intro d n m h
    obtain ⟨h1, h2, h3, h4, h5, h6, h7, h8⟩ := chk_ok h
    have hk1 := putN_one (n := v.kind) (by omega) (by omega)
    have hp : szX (v.parts.flatMap (pre (d + 1))) = (v.parts.map fun p => (enc p).length).sum := by
      rw [szX_flat]
      congr 1
      refine List.map_congr_left fun p hp => ?_
      obtain ⟨a, b, hab⟩ := chkL_all h8 p hp
      exact (ih p (Val.part_lt hp) hab).symm
    have hpre : szX (pre d v) = nodeSzX v + szX (v.parts.flatMap (pre (d + 1))) := by
      rw [pre_eq, if_neg (by omega), List.take_of_length_le (by omega)]
      simp [szX]
    rw [hpre, hp, enc_eq]
    unfold formBad at h4
    simp only [List.length_append, hk1, nodeSzX]
    by_cases k1 : v.kind = 1
    · have : v.parts = [] := List.eq_nil_of_length_eq_zero (by omega)
      rw [if_pos k1, if_pos k1, this]
      simp
    · rw [if_neg k1, if_neg k1]
      by_cases k2 : v.kind = 2
      · have : v.parts = [] := List.eq_nil_of_length_eq_zero (by omega)
        rw [if_pos k2, if_pos k2, this]
        simp
      · rw [if_neg k2, if_neg k2, List.length_append]
        have he := encL_len (k := v.kind) (s := v.names) v.parts 0 (fun hk => ⟨by omega, h6⟩)
        rw [encL, he]
        by_cases k4 : v.kind = 4
        · rw [if_pos k4]
          have : (v.names.drop 0).take v.parts.length = v.names := by
            rw [List.drop_zero, List.take_of_length_le (by omega)]
          rw [this]
          omega
        · rw [if_neg k4]
          have : v.names = [] := List.eq_nil_of_length_eq_zero (by omega)
          rw [this]
          simp
          omega
/-- the fault of a value -/
def vfault (v : Val) : Int × Int := match chk 0 v 0 with
  | .error e => e
  | .ok _ => if 4000 < (enc v).length then (14, -1) else (0, 0)
end Go.Proofs.YtffaffojkfalhaaGreatDoor
namespace Go.Proofs.YtffaffojkfalhaaGreatDoor
open Go Go.RowKit

structure VH where
  k : Int
  n : Int
  bs : Sl
  ss : Sl
  pl : Sl
abbrev valC (h : VH) : List Value := [iv h.k, iv h.n, h.bs.v, h.ss.v, h.pl.v]
abbrev valV (h : VH) : Value := .agg (valC h).toArray
inductive ValAt (V : World) : VH → Val → Prop where
  | mk {h : VH} {v : Val} (hs : List VH) : h.k = v.kind → h.n = v.num → Byt V h.bs v.bytes → SlF strC V h.ss v.names → SlF valC V h.pl hs → hs.length = v.parts.length →
      (∀ (i : Nat) x p, hs[i]? = some x → v.parts[i]? = some p → ValAt V x p) → ValAt V h v
section
variable {V V' : World} {h : VH} {v : Val}
theorem ValAt.kind : ValAt V h v → h.k = v.kind | .mk _ a _ _ _ _ _ _ => a
theorem ValAt.num : ValAt V h v → h.n = v.num | .mk _ _ a _ _ _ _ _ => a
theorem ValAt.bytes : ValAt V h v → Byt V h.bs v.bytes | .mk _ _ _ a _ _ _ _ => a
theorem ValAt.names : ValAt V h v → SlF strC V h.ss v.names | .mk _ _ _ _ a _ _ _ => a
theorem ValAt.parts : ValAt V h v → ∃ hs : List VH, SlF valC V h.pl hs ∧ hs.length = v.parts.length ∧ ∀ (i : Nat) x p, hs[i]? = some x → v.parts[i]? = some p → ValAt V x p | .mk hs _ _ _ _ a b c => ⟨hs, a, b, c⟩
theorem ValAt.up (k : Sub V V') (a : ValAt V h v) : ValAt V' h v := by
  induction a with
  | mk hs a b c d e f _ ih => exact .mk hs a b (c.up k) (d.up k) (e.up k) f ih
theorem ValAt.plen (a : ValAt V h v) : h.pl.len = v.parts.length := by
  obtain ⟨hs, a, b, _⟩ := a.parts
  rw [a.len, b]
/-- a part's cells -/
theorem ValAt.part (a : ValAt V h v) {i : Nat} (hi : i < v.parts.length) : Plain h.pl.a ∧ ∃ x, ValAt V x v.parts[i] ∧ ∀ j u, (valC x)[j]? = some u → V.cell? ⟨ablk h.pl.a, aoff h.pl.a + i * 5 + j, none⟩ = some u := by
  obtain ⟨hs, a, b, c⟩ := a.parts
  have hi' : i < hs.length := by omega
  obtain ⟨g1, g2⟩ := a.get (n := 5) (fun _ => rfl) (by omega) hi'
  exact ⟨g1, hs[i], c i _ _ (List.getElem?_eq_getElem hi') (List.getElem?_eq_getElem hi), g2⟩
theorem ValAt.part5 (a : ValAt V h v) {i : Nat} (hi : i < v.parts.length) : Plain h.pl.a ∧ ∃ x, ValAt V x v.parts[i] ∧ V.cell? ⟨ablk h.pl.a, aoff h.pl.a + i * 5, none⟩ = some (iv x.k) ∧ V.cell? ⟨ablk h.pl.a, aoff h.pl.a + i * 5 + 1, none⟩ = some (iv x.n) ∧ V.cell? ⟨ablk h.pl.a, aoff h.pl.a + i * 5 + 2, none⟩ = some x.bs.v ∧
    V.cell? ⟨ablk h.pl.a, aoff h.pl.a + i * 5 + 3, none⟩ = some x.ss.v ∧ V.cell? ⟨ablk h.pl.a, aoff h.pl.a + i * 5 + 4, none⟩ = some x.pl.v := by
  obtain ⟨g, x, hx, hc⟩ := a.part hi
  exact ⟨g, x, hx, hc 0 _ rfl, hc 1 _ rfl, hc 2 _ rfl, hc 3 _ rfl, hc 4 _ rfl⟩
end
theorem VB.mono {B B' : Nat} (hB : B ≤ B') {v : Val} (h : VB B v) : VB B' v := by
  induction h with
  | mk a b c d e f _ ih => exact .mk a b (by omega) (by omega) (fun s hs => Nat.le_trans (e s hs) hB) (by omega) ih
theorem pick_list {α β : Type} {R : α → β → Prop} : ∀ {l : List α}, (∀ x ∈ l, ∃ y, R x y) → ∃ ys : List β, ys.length = l.length ∧ ∀ (i : Nat) x y, l[i]? = some x → ys[i]? = some y → R x y
  | [], _ => ⟨[], rfl, fun i x y h => by simp at h⟩
  | a :: l, h => by
    obtain ⟨y, hy⟩ := h a (by simp)
    obtain ⟨ys, h1, h2⟩ := pick_list (l := l) fun x hx => h x (by simp [hx])
    refine ⟨y :: ys, by simp [h1], fun i x z hx hz => ?_⟩
    cases i with
    | zero => cases hx; cases hz; exact hy
    | succ i => exact h2 i x z (by simpa using hx) (by simpa using hz)
end Go.Proofs.YtffaffojkfalhaaGreatDoor
