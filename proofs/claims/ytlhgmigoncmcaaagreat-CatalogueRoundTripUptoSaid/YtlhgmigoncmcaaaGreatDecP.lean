/-
  Reading an entry: plain facts.
-/
import Derived.Test.YtlhgmigoncmcaaaGreatEncC
namespace Go.Proofs.YtlhgmigoncmcaaaGreat
open Go Go.RowKit

/-! ### things read one after another -/
def Got.and {α β : Type} (g : Got α) (one : Nat → Got β) : Got (α × β) := match g with
  | .bad c i => .bad c i
  | .ok x q => match one q with
    | .bad c i => .bad c i
    | .ok y r => .ok (x, y) r
theorem Got.and_ok {α β : Type} {g : Got α} {one : Nat → Got β} {t : α × β} {r : Nat} (h : g.and one = .ok t r) : ∃ q, g = .ok t.1 q ∧ one q = .ok t.2 r := by
  unfold Got.and at h
  split at h
  · cases h
  · rename_i x q
    split at h
    · cases h
    · rename_i y r' h2
      cases h
      exact ⟨q, rfl, h2⟩
theorem Got.and_mk {α β : Type} {g : Got α} {one : Nat → Got β} {x : α} {y : β} {q r : Nat} (h1 : g = .ok x q) (h2 : one q = .ok y r) : g.and one = .ok (x, y) r := by
  subst h1
  unfold Got.and
  simp only [h2]
/-- what reads back what was written -/
structure Rds {α : Type} (l : List UInt8) (put : α → List UInt8) (one : Nat → Got α) : Prop where
  ok : ∀ p q x, p ≤ l.length → one p = .ok x q → p ≤ q ∧ q ≤ l.length ∧ l.drop p = put x ++ l.drop q
structure Wrs {α : Type} (l : List UInt8) (put : α → List UInt8) (one : Nat → Got α) (x : α) : Prop where
  wr : ∀ p r, l.drop p = put x ++ r → p ≤ l.length → one p = .ok x (p + (put x).length)
theorem drop_add {l a r : List UInt8} {p : Nat} (h : l.drop p = a ++ r) : l.drop (p + a.length) = r := by rw [← List.drop_drop, h, List.drop_left]
theorem drop_le {l a r : List UInt8} {p : Nat} (h : l.drop p = a ++ r) (hp : p ≤ l.length) : p + a.length ≤ l.length := by
  have := congrArg List.length h
  simp at this
  omega
theorem split_at {l a r : List UInt8} {p : Nat} (h : l.drop p = a ++ r) (hp : p ≤ l.length) : l = l.take p ++ (a ++ r) ∧ (l.take p).length = p := by
  refine ⟨?_, by simp; omega⟩
  rw [← h, List.take_append_drop]
theorem num_rds (l : List UInt8) : Rds l putN (numAt l) := ⟨fun p q x hp h => by
  obtain ⟨h1, h2, _⟩ := numAt_ok hp h
  exact ⟨by omega, h2, numAt_split hp h⟩⟩
theorem chunk_rds (l : List UInt8) : Rds l putC (chunkAt l) := ⟨fun p q x hp h => by
  obtain ⟨h1, h2, h3⟩ := chunkAt_ok hp h
  exact ⟨by omega, h2, h3⟩⟩
theorem num_wrs (l : List UInt8) {n : Int} (h : I64 n) : Wrs l putN (numAt l) n := ⟨fun p r hd hp => by
  obtain ⟨h1, h2⟩ := split_at hd hp
  have := numAt_put h.1 h.2 (l.take p) r
  rw [← h1, h2] at this
  exact this⟩
theorem chunk_wrs (l : List UInt8) {b : List UInt8} (h : b.length ≤ 1099511627776) : Wrs l putC (chunkAt l) b := ⟨fun p r hd hp => by
  obtain ⟨h1, h2⟩ := split_at hd hp
  have := chunkAt_put h (l.take p) r
  rw [← h1, h2] at this
  exact this⟩
theorem list_rds {α : Type} {l : List UInt8} {put : α → List UInt8} {one : Nat → Got α} (h : Rds l put one) (m : Int) : Rds l (putL put) (listAt l one m) := ⟨fun p q x hp he => by
  unfold listAt at he
  split at he
  · cases he
  · rename_i n q' hn
    obtain ⟨h1, h2, h3, h4⟩ := numAt_ok hp hn
    have hs := numAt_split hp hn
    split at he
    · cases he
    · obtain ⟨a1, a2, a3, a4⟩ := manyAt_ok (f := put) h.ok _ _ _ _ h2 he
      refine ⟨by omega, a3, ?_⟩
      rw [hs, a4, putL, a1, Int.toNat_of_nonneg (by omega), List.append_assoc]⟩
theorem list_len {α : Type} {l : List UInt8} {one : Nat → Got α} {m : Int} {p q : Nat} {x : List α} (h : listAt l one m p = .ok x q) (hm : 0 ≤ m) : (x.length : Int) ≤ m := by
  have many : ∀ (n p q : Nat) (x : List α), manyAt one n p = .ok x q → x.length = n := by
    intro n
    induction n with
    | zero => intro p q x h; simp only [manyAt] at h; cases h; rfl
    | succ n ih =>
      intro p q x h
      simp only [manyAt] at h
      split at h
      · cases h
      · split at h
        · cases h
        · rename_i h2
          cases h
          simp [ih _ _ _ h2]
  unfold listAt at h
  split at h
  · cases h
  · split at h
    · cases h
    · have := many _ _ _ _ h
      omega
theorem list_wrs {α : Type} {l : List UInt8} {put : α → List UInt8} {one : Nat → Got α} {xs : List α} {m : Int} (hm : (xs.length : Int) ≤ m) (hx : xs.length ≤ 1099511627776) (h : ∀ x ∈ xs, Wrs l put one x) : Wrs l (putL put) (listAt l one m) xs := ⟨fun p r hd hp => by
  rw [putL, List.append_assoc] at hd
  unfold listAt
  rw [(num_wrs l (n := xs.length) (by constructor <;> omega)).wr p _ hd hp]
  simp only
  rw [if_neg (by omega), Int.toNat_natCast]
  have hle := drop_le hd hp
  rw [manyAt_put (f := put) xs _ hle (fun x hx q r hq hqr => (h x hx).wr q r hqr hq) r (drop_add hd)]
  simp only [putL, List.length_append]
  congr 1
  omega⟩
/-- a digest as its bytes tell it -/
def digOf (b : List UInt8) : Dig := fun i => b[i]?.getD 0
theorem digL_digOf {b : List UInt8} (h : b.length = 32) : digL (digOf b) = b := by
  refine List.ext_getElem (by simp [digL]; omega) fun i h1 h2 => ?_
  simp [digL, digOf, h2]
theorem digOf_digL (d : Dig) (i : Nat) (hi : i < 32) : digOf (digL d) i = d i := by
  simp [digOf, digL, hi]
def digAt (l : List UInt8) (p : Nat) : Got Dig := if l.length < p + 32 then .bad 15 p else .ok (digOf ((l.drop p).take 32)) (p + 32)
theorem dig_rds (l : List UInt8) : Rds l digL (digAt l) := ⟨fun p q x hp h => by
  unfold digAt at h
  split at h
  · cases h
  · cases h
    refine ⟨by omega, by omega, ?_⟩
    rw [digL_digOf (by simp; omega), ← List.drop_drop, List.take_append_drop]⟩
def normD (d : Dig) : Dig := digOf (digL d)
theorem digL_normD (d : Dig) : digL (normD d) = digL d := digL_digOf (digL_len d)
theorem normD_idem (d : Dig) : normD (normD d) = normD d := by rw [normD, digL_normD]; rfl
theorem dig_wrs (l : List UInt8) (d : Dig) : Wrs l digL (digAt l) (normD d) := ⟨fun p r hd hp => by
  rw [digL_normD] at hd
  have hle := drop_le hd hp
  rw [digL_len] at hle
  unfold digAt
  rw [if_neg (by omega), hd, List.take_left' (digL_len d), digL_normD, digL_len]
  rfl⟩
/-! ### an entry -/
abbrev EntT := (((((((((((((Unit × List UInt8) × Int) × Int) × Int) × Int) × Dig) × List RefD) × List (List UInt8)) × Int) × Int) × Int) × Int) × Dig) × List Dig
def refAt (l : List UInt8) (p : Nat) : Got RefD := match ((Got.ok () p).and (chunkAt l)).and (numAt l) with
  | .bad c i => .bad c i
  | .ok t q => .ok ⟨t.1.2, t.2⟩ q
def entG (l : List UInt8) (p : Nat) : Got EntT := ((((((((((((((Got.ok () p).and (chunkAt l)).and (numAt l)).and (numAt l)).and (numAt l)).and (numAt l)).and (digAt l)).and (listAt l (refAt l) l.length)).and (listAt l (chunkAt l) l.length)).and (numAt l)).and (numAt l)).and (numAt l)).and (numAt l)).and (digAt l)).and (listAt l (digAt l) l.length)
def entOf (t : EntT) : Ent := ⟨t.1.1.1.1.1.1.1.1.1.1.1.1.1.2, t.1.1.1.1.1.1.1.1.1.1.1.1.2, t.1.1.1.1.1.1.1.1.1.1.1.2, t.1.1.1.1.1.1.1.1.1.1.2, t.1.1.1.1.1.1.1.1.1.2, t.1.1.1.1.1.1.1.1.2, t.1.1.1.1.1.1.1.2, t.1.1.1.1.1.1.2, t.1.1.1.1.1.2, t.1.1.1.1.2, t.1.1.1.2, t.1.1.2, t.1.2, t.2⟩
def Got.map {α β : Type} (f : α → β) : Got α → Got β
  | .bad c i => .bad c i
  | .ok x q => .ok (f x) q
theorem Got.map_ok {α β : Type} {f : α → β} {g : Got α} {y : β} {q : Nat} (h : g.map f = .ok y q) : ∃ x, g = .ok x q ∧ y = f x := by
  cases g with
  | bad c i => cases h
  | ok x r => cases h; exact ⟨x, rfl, rfl⟩
theorem Got.map_mk {α β : Type} {f : α → β} {g : Got α} {x : α} {q : Nat} (h : g = .ok x q) : g.map f = .ok (f x) q := by subst h; rfl
def entAt (l : List UInt8) (p : Nat) : Got Ent := (entG l p).map entOf
theorem ref_rds (l : List UInt8) : Rds l putRef (refAt l) := ⟨fun p q x hp h => by
  unfold refAt at h
  split at h
  · cases h
  · rename_i t q' ht
    cases h
    obtain ⟨q2, h2, k2⟩ := Got.and_ok ht
    obtain ⟨q1, h1, k1⟩ := Got.and_ok h2
    cases h1
    obtain ⟨a1, a2, a3⟩ := (chunk_rds l).ok _ _ _ hp k1
    obtain ⟨b1, b2, b3⟩ := (num_rds l).ok _ _ _ a2 k2
    exact ⟨by omega, b2, by rw [a3, b3, putRef, List.append_assoc]⟩⟩
theorem ref_wrs (l : List UInt8) {r : RefD} (h1 : r.name.length ≤ 1099511627776) (h2 : I64 r.ver) : Wrs l putRef (refAt l) r := ⟨fun p s hd hp => by
  rw [putRef, List.append_assoc] at hd
  have k1 := (chunk_wrs l h1).wr p _ hd hp
  have hd1 := drop_add hd
  have k2 := (num_wrs l h2).wr _ _ hd1 (drop_le hd hp)
  unfold refAt
  rw [Got.and_mk (Got.and_mk rfl k1) k2]
  simp only [putRef, List.length_append]
  congr 1
  omega⟩
theorem ent_rds (l : List UInt8) : Rds l putE (entAt l) := ⟨fun p q x hp h => by
  · obtain ⟨t, ht, rfl⟩ := Got.map_ok h
    unfold entG at ht
    obtain ⟨_, ht, k14⟩ := Got.and_ok ht
    obtain ⟨_, ht, k13⟩ := Got.and_ok ht
    obtain ⟨_, ht, k12⟩ := Got.and_ok ht
    obtain ⟨_, ht, k11⟩ := Got.and_ok ht
    obtain ⟨_, ht, k10⟩ := Got.and_ok ht
    obtain ⟨_, ht, k9⟩ := Got.and_ok ht
    obtain ⟨_, ht, k8⟩ := Got.and_ok ht
    obtain ⟨_, ht, k7⟩ := Got.and_ok ht
    obtain ⟨_, ht, k6⟩ := Got.and_ok ht
    obtain ⟨_, ht, k5⟩ := Got.and_ok ht
    obtain ⟨_, ht, k4⟩ := Got.and_ok ht
    obtain ⟨_, ht, k3⟩ := Got.and_ok ht
    obtain ⟨_, ht, k2⟩ := Got.and_ok ht
    obtain ⟨_, ht, k1⟩ := Got.and_ok ht
    cases ht
    obtain ⟨a1, b1, c1⟩ := (chunk_rds l).ok _ _ _ hp k1
    obtain ⟨a2, b2, c2⟩ := (num_rds l).ok _ _ _ b1 k2
    obtain ⟨a3, b3, c3⟩ := (num_rds l).ok _ _ _ b2 k3
    obtain ⟨a4, b4, c4⟩ := (num_rds l).ok _ _ _ b3 k4
    obtain ⟨a5, b5, c5⟩ := (num_rds l).ok _ _ _ b4 k5
    obtain ⟨a6, b6, c6⟩ := (dig_rds l).ok _ _ _ b5 k6
    obtain ⟨a7, b7, c7⟩ := (list_rds (ref_rds l) _).ok _ _ _ b6 k7
    obtain ⟨a8, b8, c8⟩ := (list_rds (chunk_rds l) _).ok _ _ _ b7 k8
    obtain ⟨a9, b9, c9⟩ := (num_rds l).ok _ _ _ b8 k9
    obtain ⟨a10, b10, c10⟩ := (num_rds l).ok _ _ _ b9 k10
    obtain ⟨a11, b11, c11⟩ := (num_rds l).ok _ _ _ b10 k11
    obtain ⟨a12, b12, c12⟩ := (num_rds l).ok _ _ _ b11 k12
    obtain ⟨a13, b13, c13⟩ := (dig_rds l).ok _ _ _ b12 k13
    obtain ⟨a14, b14, c14⟩ := (list_rds (dig_rds l) _).ok _ _ _ b13 k14
    refine ⟨by omega, b14, ?_⟩
    rw [c1, c2, c3, c4, c5, c6, c7, c8, c9, c10, c11, c12, c13, c14]
    simp only [putE, entOf, List.append_assoc]⟩
/-- what is read is tame enough -/
theorem numAt_i64 {l : List UInt8} {p q : Nat} {n : Int} (hp : p ≤ l.length) (h : numAt l p = .ok n q) : I64 n := by
  obtain ⟨_, _, _, h1, h2⟩ := numAt_ok hp h
  exact ⟨h1, h2⟩
theorem flat_digs : ∀ l : List Dig, (l.flatMap digL).length = l.length * 32
  | [] => rfl
  | d :: l => by simp only [List.flatMap_cons, List.length_append, digL_len, flat_digs l, List.length_cons, Nat.succ_mul]; omega
def normE (e : Ent) : Ent := { e with sum := normD e.sum, csum := normD e.csum, pieces := e.pieces.map normD }
theorem flat_normD : ∀ l : List Dig, (l.map normD).flatMap digL = l.flatMap digL
  | [] => rfl
  | d :: l => by simp only [List.map_cons, List.flatMap_cons, digL_normD, flat_normD l]
theorem putE_normE (e : Ent) : putE (normE e) = putE e := by
  simp only [putE, normE, digL_normD, putL, List.length_map, flat_normD]
theorem same_normE (e : Ent) : sameEnt e (normE e) := by
  refine ⟨rfl, rfl, rfl, rfl, rfl, (digL_normD _).symm, rfl, rfl, rfl, rfl, rfl, rfl, (digL_normD _).symm, ?_⟩
  simp [normE, digL_normD]
theorem ent_wrs (l : List UInt8) {e : Ent} (h : Tame e) (hl : (putE e).length ≤ l.length) : Wrs l putE (entAt l) (normE e) := ⟨fun p r hd hp => by
  rw [putE_normE] at hd
  simp only [putE, List.append_assoc] at hd
  have hN := h.num
  have z1 := h.so
  have z2 := h.gr
  have z3 := h.pi
  have hlen : e.sources.length ≤ l.length ∧ e.groups.length ≤ l.length ∧ e.pieces.length ≤ l.length := by
    have q1 : 64 ≤ (putE e).length := by simp only [putE, List.length_append, digL_len]; omega
    have q2 : e.pieces.length ≤ (putL digL e.pieces).length := by
      rw [putL, List.length_append]
      have := flat_digs e.pieces
      omega
    have q3 : (putL digL e.pieces).length ≤ (putE e).length := by simp only [putE, List.length_append]; omega
    omega
  obtain ⟨y1, y2, y3⟩ := hlen
  have k1 := (chunk_wrs l (b := e.name) (by have := h.name; omega)).wr _ _ hd hp
  have hp := drop_le hd hp
  replace hd := drop_add hd
  have k2 := (num_wrs l hN.ver).wr _ _ hd hp
  have hp := drop_le hd hp
  replace hd := drop_add hd
  have k3 := (num_wrs l hN.kind).wr _ _ hd hp
  have hp := drop_le hd hp
  replace hd := drop_add hd
  have k4 := (num_wrs l hN.day).wr _ _ hd hp
  have hp := drop_le hd hp
  replace hd := drop_add hd
  have k5 := (num_wrs l hN.size).wr _ _ hd hp
  have hp := drop_le hd hp
  replace hd := drop_add hd
  rw [← digL_normD e.sum] at hd
  have k6 := (dig_wrs l e.sum).wr _ _ hd hp
  have hp := drop_le hd hp
  replace hd := drop_add hd
  have k7 := (list_wrs (l := l) (put := putRef) (one := refAt l) (xs := e.sources) (m := l.length) (by omega) (by omega) (fun x hx => ref_wrs l (by have := h.sn x hx; omega) (hN.srcs x hx))).wr _ _ hd hp
  have hp := drop_le hd hp
  replace hd := drop_add hd
  have k8 := (list_wrs (l := l) (put := putC) (one := chunkAt l) (xs := e.groups) (m := l.length) (by omega) (by omega) (fun x hx => chunk_wrs l (by have := h.gn x hx; omega))).wr _ _ hd hp
  have hp := drop_le hd hp
  replace hd := drop_add hd
  have k9 := (num_wrs l hN.emb).wr _ _ hd hp
  have hp := drop_le hd hp
  replace hd := drop_add hd
  have k10 := (num_wrs l hN.need).wr _ _ hd hp
  have hp := drop_le hd hp
  replace hd := drop_add hd
  have k11 := (num_wrs l hN.keep).wr _ _ hd hp
  have hp := drop_le hd hp
  replace hd := drop_add hd
  have k12 := (num_wrs l hN.csize).wr _ _ hd hp
  have hp := drop_le hd hp
  replace hd := drop_add hd
  rw [← digL_normD e.csum] at hd
  have k13 := (dig_wrs l e.csum).wr _ _ hd hp
  have hp := drop_le hd hp
  replace hd := drop_add hd
  have hd' := hd.trans (show putL digL e.pieces ++ r = putL digL (e.pieces.map normD) ++ r by simp only [putL, List.length_map, flat_normD])
  have k14 := (list_wrs (l := l) (put := digL) (one := digAt l) (xs := e.pieces.map normD) (m := l.length) (by simp; omega) (by simp; omega) (fun x hx => by obtain ⟨d, _, rfl⟩ := List.mem_map.1 hx; exact dig_wrs l d)).wr _ _ hd' hp
  have k := Got.map_mk (f := entOf) (Got.and_mk (Got.and_mk (Got.and_mk (Got.and_mk (Got.and_mk (Got.and_mk (Got.and_mk (Got.and_mk (Got.and_mk (Got.and_mk (Got.and_mk (Got.and_mk (Got.and_mk (Got.and_mk (show Got.ok () p = .ok () p from rfl) k1) k2) k3) k4) k5) k6) k7) k8) k9) k10) k11) k12) k13) k14)
  refine Eq.trans k ?_
  simp only [entOf, normE, putE, List.length_append]
  congr 1
  omega⟩
end Go.Proofs.YtlhgmigoncmcaaaGreat
