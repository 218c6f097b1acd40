/-
  ComesFrom of the reference.
-/
import Derived.Test.YtlhgmigoncmcaaaCatM
import Derived.Test.YtlhgmigoncmcaaaCatN
namespace Go.Proofs.Ytlhgmigoncmcaaa
open Go Go.RowKit

def cfR (l : List Ent) (b : Nat) (r : RefD) : Bool := match place l r with | some k => decide (k = b) || comes l k b | none => false
def cfAt (l : List Ent) (b i : Nat) : List Bool := (List.range l.length).map fun q => decide (b < q) && decide (q < i) && comes l q b
def cfMid (l : List Ent) (b i m : Nat) (srcs : List RefD) : List Bool := (cfAt l b i).set i ((srcs.take m).any (cfR l b))
theorem cfAt_len (l : List Ent) (b i : Nat) : (cfAt l b i).length = l.length := by simp [cfAt]
theorem cfMid_len (l : List Ent) (b i m : Nat) (srcs : List RefD) : (cfMid l b i m srcs).length = l.length := by simp [cfMid, cfAt]
theorem cfAt_get {l : List Ent} {b i q : Nat} (hq : q < l.length) : (cfAt l b i)[q]? = some (decide (b < q) && decide (q < i) && comes l q b) := by simp [cfAt, hq]
theorem cfAt_zero (l : List Ent) (b : Nat) : (cfAt l b (b + 1)).map Value.bool = List.replicate l.length (.bool false) := by
  rw [List.eq_replicate_iff]
  refine ⟨by simp [cfAt], fun x hx => ?_⟩
  simp only [cfAt, List.map_map, List.mem_map, List.mem_range, Function.comp] at hx
  obtain ⟨q, _, rfl⟩ := hx
  by_cases h : b < q
  · have : ¬ q < b + 1 := by omega
    simp [this]
  · simp [h]
theorem cfMid_zero {l : List Ent} {b i : Nat} (srcs : List RefD) : cfMid l b i 0 srcs = cfAt l b i := by
  apply List.ext_getElem?
  intro q
  simp only [cfMid, List.take_zero, List.any_nil, List.getElem?_set, cfAt_len]
  by_cases e : i = q
  · subst e
    by_cases h : i < l.length
    · simp [h, cfAt_get h]
    · rw [if_pos rfl, if_neg h, List.getElem?_eq_none (by rw [cfAt_len]; omega)]
  · rw [if_neg e]
theorem any_cf {l : List Ent} (hcyc : ∀ i, i < l.length → cycleAt l i = false) {i b : Nat} (hi : i < l.length) (hb : b < l.length) : l[i].sources.any (cfR l b) = comes l i b := by
  rw [Bool.eq_iff_iff, comes_iff hcyc hi hb, List.any_eq_true]
  constructor
  · rintro ⟨r, hr, h⟩
    unfold cfR at h
    cases hk : place l r with
    | none => rw [hk] at h; cases h
    | some k =>
      rw [hk] at h
      simp only [Bool.or_eq_true, decide_eq_true_eq] at h
      have h1 := hcyc i hi
      simp only [cycleAt, hi, List.getElem?_eq_getElem, Option.getD_some, List.any_eq_false] at h1
      have h2 := h1 r hr
      simp only [cycR, hk, decide_eq_true_eq] at h2
      exact ⟨r, hr, k, hk, by omega, h⟩
  · rintro ⟨r, hr, k, hk, _, h⟩
    refine ⟨r, hr, ?_⟩
    unfold cfR
    rw [hk]
    simpa using h
theorem cfMid_all {l : List Ent} (hcyc : ∀ i, i < l.length → cycleAt l i = false) {i b : Nat} (hi : i < l.length) (hb : b < i) : cfMid l b i l[i].sources.length l[i].sources = cfAt l b (i + 1) := by
  apply List.ext_getElem?
  intro q
  simp only [cfMid, List.take_length, any_cf hcyc hi (show b < l.length by omega), List.getElem?_set, cfAt_len]
  by_cases e : i = q
  · subst e
    simp [hi, cfAt_get hi, hb]
  · rw [if_neg e]
    by_cases h : q < l.length
    · rw [cfAt_get h, cfAt_get h]
      have : decide (q < i) = decide (q < i + 1) := by
        by_cases h2 : q < i
        · simp [h2, show q < i + 1 by omega]
        · simp [h2, show ¬ q < i + 1 by omega]
      rw [this]
    · rw [List.getElem?_eq_none (by rw [cfAt_len]; omega), List.getElem?_eq_none (by rw [cfAt_len]; omega)]
theorem cfMid_true {l : List Ent} {b i m : Nat} {srcs : List RefD} (hm : m < srcs.length) (h : cfR l b srcs[m] = true) : (cfMid l b i m srcs).set i true = cfMid l b i (m + 1) srcs := by
  unfold cfMid
  rw [List.take_succ_eq_append_getElem hm, List.any_append, List.any_cons, h, Bool.true_or, Bool.or_true, List.set_set]
theorem cfMid_false {l : List Ent} {b i m : Nat} {srcs : List RefD} (hm : m < srcs.length) (h : cfR l b srcs[m] = false) : cfMid l b i (m + 1) srcs = cfMid l b i m srcs := by
  unfold cfMid
  rw [List.take_succ_eq_append_getElem hm, List.any_append, List.any_cons, h, List.any_nil, Bool.false_or, Bool.or_false]
section
variable {V W : World}
set_option maxRecDepth 100000 in
set_option maxHeartbeats 4000000 in
theorem comesFrom_ref (hV : Sub V W) {s : Sl} {l : List Ent} (hs : Ents V s l) (hc : (catFault l).1 = 0) {a b : Nat} (ha : a < l.length) (hb : b < l.length) : Ret Try.prog 30 [catV s, iv a, iv b].toArray W fun v w' => v = .bool (comes l a b) ∧ Rel W V [] V w' := by
  have H := Rel.start hV
  have hlen := hs.len
  obtain ⟨hc0, h60, hent, hcyc⟩ := catFault_zero hc
  refine cal_of_vc tabOk Try.func30 rfl (by kernel_rfl) 70 rfl (by simp) [0, 1, 2, 3, 6, 7, 8, 9, 10, 19, 30, 57] ?_
  ((repeat ((conv => whnf); first | refine an ?_ | refine H.ce ?_ | refine H.db ?_ | refine ea ?_ | ((first | refine H.store_0 ?_ | refine H.store_1 ?_ | refine H.store_2 ?_ | refine H.store_3 ?_ | refine H.store_4 ?_ | refine H.store_5 ?_ | refine H.store_6 ?_ | refine H.store_7 ?_ | refine H.store_8 ?_ | refine H.store_9 ?_); (conv => whnf); clear H; intro w H) | refine condT fun _ => ?_ | refine condF fun _ => ?_ | refine condNT fun _ => ?_ | refine condNF fun _ => ?_ | refine H.da (hc1 _ _ (by rfl)) ?_ | refine H.datw hc1 (by rfl) ?_ | refine H.datl hc1 (by rfl) ?_ | refine H.da (hc2 _ _ (by rfl)) ?_ | refine H.datw hc2 (by rfl) ?_ | refine H.datl hc2 (by rfl) ?_ | refine H.da (hc3 _ _ (by rfl)) ?_ | refine H.datw hc3 (by rfl) ?_ | refine H.datl hc3 (by rfl) ?_ | refine H.da (hc4 _ _ (by rfl)) ?_ | refine H.datw hc4 (by rfl) ?_ | refine H.datl hc4 (by rfl) ?_ | refine H.lw ?_ | refine H.ll ?_)); (conv => whnf))
  ((first | refine Rel.nw H ?_ | refine Rel.nwD H ?_); clear H; intro w b3 H)
  ((repeat ((conv => whnf); first | refine an ?_ | ((first | refine H.nw ?_ | refine H.nwD ?_); clear H; intro w _ H) | refine H.ce ?_ | refine H.db ?_ | refine ea ?_ | ((first | refine H.store_0 ?_ | refine H.store_1 ?_ | refine H.store_2 ?_ | refine H.store_3 ?_ | refine H.store_4 ?_ | refine H.store_5 ?_ | refine H.store_6 ?_ | refine H.store_7 ?_ | refine H.store_8 ?_ | refine H.store_9 ?_); (conv => whnf); clear H; intro w H) | refine condT fun _ => ?_ | refine condF fun _ => ?_ | refine condNT fun _ => ?_ | refine condNF fun _ => ?_ | refine H.da (hc1 _ _ (by rfl)) ?_ | refine H.datw hc1 (by rfl) ?_ | refine H.datl hc1 (by rfl) ?_ | refine H.da (hc2 _ _ (by rfl)) ?_ | refine H.datw hc2 (by rfl) ?_ | refine H.datl hc2 (by rfl) ?_ | refine H.da (hc3 _ _ (by rfl)) ?_ | refine H.datw hc3 (by rfl) ?_ | refine H.datl hc3 (by rfl) ?_ | refine H.da (hc4 _ _ (by rfl)) ?_ | refine H.datw hc4 (by rfl) ?_ | refine H.datl hc4 (by rfl) ?_ | refine H.lw ?_ | refine H.ll ?_)); (conv => whnf))
  refine sem_make tabOk rfl rfl rfl rfl rfl rfl (by omega) (by simp; omega) (by omega) fun w b7 hn => ?_
  replace H := H.newBlk hn
  clear hn
  rw [show ((s.len : Nat) : Int).toNat = l.length by omega] at H ⊢
  ((repeat ((conv => whnf); first | refine an ?_ | ((first | refine H.nw ?_ | refine H.nwD ?_); clear H; intro w _ H) | refine H.ce ?_ | refine H.db ?_ | refine ea ?_ | ((first | refine H.store_0 ?_ | refine H.store_1 ?_ | refine H.store_2 ?_ | refine H.store_3 ?_ | refine H.store_4 ?_ | refine H.store_5 ?_ | refine H.store_6 ?_ | refine H.store_7 ?_ | refine H.store_8 ?_ | refine H.store_9 ?_); (conv => whnf); clear H; intro w H) | refine condT fun _ => ?_ | refine condF fun _ => ?_ | refine condNT fun _ => ?_ | refine condNF fun _ => ?_ | refine H.da (hc1 _ _ (by rfl)) ?_ | refine H.datw hc1 (by rfl) ?_ | refine H.datl hc1 (by rfl) ?_ | refine H.da (hc2 _ _ (by rfl)) ?_ | refine H.datw hc2 (by rfl) ?_ | refine H.datl hc2 (by rfl) ?_ | refine H.da (hc3 _ _ (by rfl)) ?_ | refine H.datw hc3 (by rfl) ?_ | refine H.datl hc3 (by rfl) ?_ | refine H.da (hc4 _ _ (by rfl)) ?_ | refine H.datw hc4 (by rfl) ?_ | refine H.datl hc4 (by rfl) ?_ | refine H.lw ?_ | refine H.ll ?_)); (conv => whnf))
  refine loop_inv (S := Nat) tabOk [1, 2, 3, 7] (fun i => [(8, iv i)]) (fun i w' => b + 1 ≤ i ∧ (i ≤ a + 1 ∨ i = b + 1) ∧ Rel W V [.blk b7 ((cfAt l b i).map .bool) 4, .blk b3 [s.v] 24] V w') (fun i _ => a + 1 - i) (b + 1) ?_
  (conv => whnf)
  refine ⟨(by repeat (first | exact trivial | refine ⟨rfl, ?_⟩)), ⟨by omega, by omega, ?_⟩, ?_⟩
  · rw [cfAt_zero]
    exact H.sx
  clear H
  rintro i w ⟨hi, hia, H⟩
  by_cases hle : i ≤ a
  rotate_left
  · by_cases hab : b < a
    · obtain rfl : i = a + 1 := by omega
      have c2 : w.cell? ⟨b7, 0 + ((a : Nat) : Int).toNat, none⟩ = some (.bool (comes l a b)) := by
        rw [Nat.zero_add, Int.toNat_natCast]
        exact Rel.celAt H (i := 0) rfl (by simp [cfAt_get ha, hab])
      ((repeat ((conv => whnf); first | refine an ?_ | ((first | refine H.nw ?_ | refine H.nwD ?_); clear H; intro w _ H) | refine H.ce ?_ | refine H.db ?_ | refine ea ?_ | ((first | refine H.store_0 ?_ | refine H.store_1 ?_ | refine H.store_2 ?_ | refine H.store_3 ?_ | refine H.store_4 ?_ | refine H.store_5 ?_ | refine H.store_6 ?_ | refine H.store_7 ?_ | refine H.store_8 ?_ | refine H.store_9 ?_); (conv => whnf); clear H; intro w H) | refine condT fun _ => ?_ | refine condF fun _ => ?_ | refine condNT fun _ => ?_ | refine condNF fun _ => ?_ | refine H.da (hc1 _ _ (by rfl)) ?_ | refine H.datw hc1 (by rfl) ?_ | refine H.datl hc1 (by rfl) ?_ | refine H.da (hc2 _ _ (by rfl)) ?_ | refine H.datw hc2 (by rfl) ?_ | refine H.datl hc2 (by rfl) ?_ | refine H.da (hc3 _ _ (by rfl)) ?_ | refine H.datw hc3 (by rfl) ?_ | refine H.datl hc3 (by rfl) ?_ | refine H.da (hc4 _ _ (by rfl)) ?_ | refine H.datw hc4 (by rfl) ?_ | refine H.datl hc4 (by rfl) ?_ | refine H.lw ?_ | refine H.ll ?_)); (conv => whnf))
      exact H.sx
    · have : comes l a b = false := by
        cases h : comes l a b with
        | false => rfl
        | true => exact absurd (comes_lt hcyc h) hab
      rw [this]
      ((repeat ((conv => whnf); first | refine an ?_ | ((first | refine H.nw ?_ | refine H.nwD ?_); clear H; intro w _ H) | refine H.ce ?_ | refine H.db ?_ | refine ea ?_ | ((first | refine H.store_0 ?_ | refine H.store_1 ?_ | refine H.store_2 ?_ | refine H.store_3 ?_ | refine H.store_4 ?_ | refine H.store_5 ?_ | refine H.store_6 ?_ | refine H.store_7 ?_ | refine H.store_8 ?_ | refine H.store_9 ?_); (conv => whnf); clear H; intro w H) | refine condT fun _ => ?_ | refine condF fun _ => ?_ | refine condNT fun _ => ?_ | refine condNF fun _ => ?_ | refine H.da (hc1 _ _ (by rfl)) ?_ | refine H.datw hc1 (by rfl) ?_ | refine H.datl hc1 (by rfl) ?_ | refine H.da (hc2 _ _ (by rfl)) ?_ | refine H.datw hc2 (by rfl) ?_ | refine H.datl hc2 (by rfl) ?_ | refine H.da (hc3 _ _ (by rfl)) ?_ | refine H.datw hc3 (by rfl) ?_ | refine H.datl hc3 (by rfl) ?_ | refine H.da (hc4 _ _ (by rfl)) ?_ | refine H.datw hc4 (by rfl) ?_ | refine H.datl hc4 (by rfl) ?_ | refine H.lw ?_ | refine H.ll ?_)); (conv => whnf))
      exact H.sx
  have hlt : i < l.length := by omega
  obtain ⟨hp, eh, hok, hc1⟩ := hs.get hlt
  have hso := hok.so.len
  have hsl := (groups_le hent hlt).2
  ((repeat ((conv => whnf); first | refine an ?_ | ((first | refine H.nw ?_ | refine H.nwD ?_); clear H; intro w _ H) | refine H.ce ?_ | refine H.db ?_ | refine ea ?_ | ((first | refine H.store_0 ?_ | refine H.store_1 ?_ | refine H.store_2 ?_ | refine H.store_3 ?_ | refine H.store_4 ?_ | refine H.store_5 ?_ | refine H.store_6 ?_ | refine H.store_7 ?_ | refine H.store_8 ?_ | refine H.store_9 ?_); (conv => whnf); clear H; intro w H) | refine condT fun _ => ?_ | refine condF fun _ => ?_ | refine condNT fun _ => ?_ | refine condNF fun _ => ?_ | refine H.da (hc1 _ _ (by rfl)) ?_ | refine H.datw hc1 (by rfl) ?_ | refine H.datl hc1 (by rfl) ?_ | refine H.da (hc2 _ _ (by rfl)) ?_ | refine H.datw hc2 (by rfl) ?_ | refine H.datl hc2 (by rfl) ?_ | refine H.da (hc3 _ _ (by rfl)) ?_ | refine H.datw hc3 (by rfl) ?_ | refine H.datl hc3 (by rfl) ?_ | refine H.da (hc4 _ _ (by rfl)) ?_ | refine H.datw hc4 (by rfl) ?_ | refine H.datl hc4 (by rfl) ?_ | refine H.lw ?_ | refine H.ll ?_)); (conv => whnf))
  refine SemC.cut 2 (fun _ : Unit => [(1, iv a), (2, iv b), (3, .pointer (some ⟨b3, 0, none⟩)), (7, .slice (some ⟨b7, 0, none⟩) l.length l.length), (8, iv i)]) (fun _ w' => Rel W V [.blk b7 ((cfAt l b (i + 1)).map .bool) 4, .blk b3 [s.v] 24] V w') ?_ ?_
  rotate_left
  · rintro _ w H
    ((repeat ((conv => whnf); first | refine an ?_ | ((first | refine H.nw ?_ | refine H.nwD ?_); clear H; intro w _ H) | refine H.ce ?_ | refine H.db ?_ | refine ea ?_ | ((first | refine H.store_0 ?_ | refine H.store_1 ?_ | refine H.store_2 ?_ | refine H.store_3 ?_ | refine H.store_4 ?_ | refine H.store_5 ?_ | refine H.store_6 ?_ | refine H.store_7 ?_ | refine H.store_8 ?_ | refine H.store_9 ?_); (conv => whnf); clear H; intro w H) | refine condT fun _ => ?_ | refine condF fun _ => ?_ | refine condNT fun _ => ?_ | refine condNF fun _ => ?_ | refine H.da (hc1 _ _ (by rfl)) ?_ | refine H.datw hc1 (by rfl) ?_ | refine H.datl hc1 (by rfl) ?_ | refine H.da (hc2 _ _ (by rfl)) ?_ | refine H.datw hc2 (by rfl) ?_ | refine H.datl hc2 (by rfl) ?_ | refine H.da (hc3 _ _ (by rfl)) ?_ | refine H.datw hc3 (by rfl) ?_ | refine H.datl hc3 (by rfl) ?_ | refine H.da (hc4 _ _ (by rfl)) ?_ | refine H.datw hc4 (by rfl) ?_ | refine H.datl hc4 (by rfl) ?_ | refine H.lw ?_ | refine H.ll ?_)); (conv => whnf))
    exact ⟨(by repeat (first | exact trivial | refine ⟨rfl, ?_⟩)), i + 1, (by repeat (first | exact trivial | refine ⟨rfl, ?_⟩)), ⟨by omega, by omega, H.sx⟩, by omega⟩
  refine loop_inv (S := Nat) tabOk [1, 2, 3, 7, 8] (fun m => [(9, iv m)]) (fun m w' => m ≤ l[i].sources.length ∧ Rel W V [.blk b7 ((cfMid l b i m l[i].sources).map .bool) 4, .blk b3 [s.v] 24] V w') (fun m _ => l[i].sources.length - m) 0 ?_
  (conv => whnf)
  refine ⟨(by repeat (first | exact trivial | refine ⟨rfl, ?_⟩)), ⟨by omega, ?_⟩, ?_⟩
  · rw [cfMid_zero]
    exact H.sx
  clear H
  rintro m w ⟨hm, H⟩
  by_cases hmlt : m < l[i].sources.length
  rotate_left
  · obtain rfl : m = l[i].sources.length := by omega
    rw [cfMid_all hcyc hlt (by omega)] at H
    ((repeat ((conv => whnf); first | refine an ?_ | ((first | refine H.nw ?_ | refine H.nwD ?_); clear H; intro w _ H) | refine H.ce ?_ | refine H.db ?_ | refine ea ?_ | ((first | refine H.store_0 ?_ | refine H.store_1 ?_ | refine H.store_2 ?_ | refine H.store_3 ?_ | refine H.store_4 ?_ | refine H.store_5 ?_ | refine H.store_6 ?_ | refine H.store_7 ?_ | refine H.store_8 ?_ | refine H.store_9 ?_); (conv => whnf); clear H; intro w H) | refine condT fun _ => ?_ | refine condF fun _ => ?_ | refine condNT fun _ => ?_ | refine condNF fun _ => ?_ | refine H.da (hc1 _ _ (by rfl)) ?_ | refine H.datw hc1 (by rfl) ?_ | refine H.datl hc1 (by rfl) ?_ | refine H.da (hc2 _ _ (by rfl)) ?_ | refine H.datw hc2 (by rfl) ?_ | refine H.datl hc2 (by rfl) ?_ | refine H.da (hc3 _ _ (by rfl)) ?_ | refine H.datw hc3 (by rfl) ?_ | refine H.datl hc3 (by rfl) ?_ | refine H.da (hc4 _ _ (by rfl)) ?_ | refine H.datw hc4 (by rfl) ?_ | refine H.datl hc4 (by rfl) ?_ | refine H.lw ?_ | refine H.ll ?_)); (conv => whnf))
    exact ⟨(), (by repeat (first | exact trivial | refine ⟨rfl, ?_⟩)), H⟩
  obtain ⟨hp2, hc2, hc2'⟩ := hok.so.get hmlt
  ((repeat ((conv => whnf); first | refine an ?_ | ((first | refine H.nw ?_ | refine H.nwD ?_); clear H; intro w _ H) | refine H.ce ?_ | refine H.db ?_ | refine ea ?_ | ((first | refine H.store_0 ?_ | refine H.store_1 ?_ | refine H.store_2 ?_ | refine H.store_3 ?_ | refine H.store_4 ?_ | refine H.store_5 ?_ | refine H.store_6 ?_ | refine H.store_7 ?_ | refine H.store_8 ?_ | refine H.store_9 ?_); (conv => whnf); clear H; intro w H) | refine condT fun _ => ?_ | refine condF fun _ => ?_ | refine condNT fun _ => ?_ | refine condNF fun _ => ?_ | refine H.da (hc1 _ _ (by rfl)) ?_ | refine H.datw hc1 (by rfl) ?_ | refine H.datl hc1 (by rfl) ?_ | refine H.da (hc2 _ _ (by rfl)) ?_ | refine H.datw hc2 (by rfl) ?_ | refine H.datl hc2 (by rfl) ?_ | refine H.da (hc3 _ _ (by rfl)) ?_ | refine H.datw hc3 (by rfl) ?_ | refine H.datl hc3 (by rfl) ?_ | refine H.da (hc4 _ _ (by rfl)) ?_ | refine H.datw hc4 (by rfl) ?_ | refine H.datl hc4 (by rfl) ?_ | refine H.lw ?_ | refine H.ll ?_)); (conv => whnf))
  ((first | refine draw_vc (id := 8) tabOk mixed [] [0, 1, 2, 3, 4, 5, 6, 7, 8, 9, 10, 11] (by kernel_rfl) ?_); intro w hdw; replace H := Rel.ext H hdw.ext)
  ((repeat ((conv => whnf); first | refine an ?_ | ((first | refine H.nw ?_ | refine H.nwD ?_); clear H; intro w _ H) | refine H.ce ?_ | refine H.db ?_ | refine ea ?_ | ((first | refine H.store_0 ?_ | refine H.store_1 ?_ | refine H.store_2 ?_ | refine H.store_3 ?_ | refine H.store_4 ?_ | refine H.store_5 ?_ | refine H.store_6 ?_ | refine H.store_7 ?_ | refine H.store_8 ?_ | refine H.store_9 ?_); (conv => whnf); clear H; intro w H) | refine condT fun _ => ?_ | refine condF fun _ => ?_ | refine condNT fun _ => ?_ | refine condNF fun _ => ?_ | refine H.da (hc1 _ _ (by rfl)) ?_ | refine H.datw hc1 (by rfl) ?_ | refine H.datl hc1 (by rfl) ?_ | refine H.da (hc2 _ _ (by rfl)) ?_ | refine H.datw hc2 (by rfl) ?_ | refine H.datl hc2 (by rfl) ?_ | refine H.da (hc3 _ _ (by rfl)) ?_ | refine H.datw hc3 (by rfl) ?_ | refine H.datl hc3 (by rfl) ?_ | refine H.da (hc4 _ _ (by rfl)) ?_ | refine H.datw hc4 (by rfl) ?_ | refine H.datl hc4 (by rfl) ?_ | refine H.lw ?_ | refine H.ll ?_)); (conv => whnf))
  refine (place_ref H.data hs (by omega) l[i].sources[m]).use ?_
  rintro v w ⟨rfl, K⟩
  have hKb := K.base
  replace H := H.call K
  simp only [List.nil_append] at H
  cases hpl : place l l[i].sources[m] with
  | none =>
    have e1 : placeI l l[i].sources[m] = -1 := by simp [placeI, hpl]
    have e2 : cfR l b l[i].sources[m] = false := by simp [cfR, hpl]
    rw [e1]
    ((repeat ((conv => whnf); first | refine an ?_ | ((first | refine H.nw ?_ | refine H.nwD ?_); clear H; intro w _ H) | refine H.ce ?_ | refine H.db ?_ | refine ea ?_ | ((first | refine H.store_0 ?_ | refine H.store_1 ?_ | refine H.store_2 ?_ | refine H.store_3 ?_ | refine H.store_4 ?_ | refine H.store_5 ?_ | refine H.store_6 ?_ | refine H.store_7 ?_ | refine H.store_8 ?_ | refine H.store_9 ?_); (conv => whnf); clear H; intro w H) | refine condT fun _ => ?_ | refine condF fun _ => ?_ | refine condNT fun _ => ?_ | refine condNF fun _ => ?_ | refine H.da (hc1 _ _ (by rfl)) ?_ | refine H.datw hc1 (by rfl) ?_ | refine H.datl hc1 (by rfl) ?_ | refine H.da (hc2 _ _ (by rfl)) ?_ | refine H.datw hc2 (by rfl) ?_ | refine H.datl hc2 (by rfl) ?_ | refine H.da (hc3 _ _ (by rfl)) ?_ | refine H.datw hc3 (by rfl) ?_ | refine H.datl hc3 (by rfl) ?_ | refine H.da (hc4 _ _ (by rfl)) ?_ | refine H.datw hc4 (by rfl) ?_ | refine H.datl hc4 (by rfl) ?_ | refine H.lw ?_ | refine H.ll ?_)); (conv => whnf))
    refine ⟨(by repeat (first | exact trivial | refine ⟨rfl, ?_⟩)), m + 1, (by repeat (first | exact trivial | refine ⟨rfl, ?_⟩)), ⟨by omega, ?_⟩, by omega⟩
    rw [cfMid_false hmlt e2]
    exact H.sx
  | some k =>
    have hki : k < i := by
      have h1 := hcyc i hlt
      simp only [cycleAt, List.getElem?_eq_getElem hlt, Option.getD_some] at h1
      have h2 := List.any_eq_false.1 h1 _ (List.getElem_mem hmlt)
      simp only [cycR, hpl, decide_eq_true_eq] at h2
      omega
    have e1 : placeI l l[i].sources[m] = k := by simp [placeI, hpl]
    have e2 : cfR l b l[i].sources[m] = (decide (k = b) || comes l k b) := by simp [cfR, hpl]
    rw [e1]
    by_cases hkb : k = b
    · ((repeat ((conv => whnf); first | refine an ?_ | ((first | refine H.nw ?_ | refine H.nwD ?_); clear H; intro w _ H) | refine H.ce ?_ | refine H.db ?_ | refine ea ?_ | ((first | refine H.store_0 ?_ | refine H.store_1 ?_ | refine H.store_2 ?_ | refine H.store_3 ?_ | refine H.store_4 ?_ | refine H.store_5 ?_ | refine H.store_6 ?_ | refine H.store_7 ?_ | refine H.store_8 ?_ | refine H.store_9 ?_); (conv => whnf); clear H; intro w H) | refine condT fun _ => ?_ | refine condF fun _ => ?_ | refine condNT fun _ => ?_ | refine condNF fun _ => ?_ | refine H.da (hc1 _ _ (by rfl)) ?_ | refine H.datw hc1 (by rfl) ?_ | refine H.datl hc1 (by rfl) ?_ | refine H.da (hc2 _ _ (by rfl)) ?_ | refine H.datw hc2 (by rfl) ?_ | refine H.datl hc2 (by rfl) ?_ | refine H.da (hc3 _ _ (by rfl)) ?_ | refine H.datw hc3 (by rfl) ?_ | refine H.datl hc3 (by rfl) ?_ | refine H.da (hc4 _ _ (by rfl)) ?_ | refine H.datw hc4 (by rfl) ?_ | refine H.datl hc4 (by rfl) ?_ | refine H.lw ?_ | refine H.ll ?_)); (conv => whnf))
      refine Rel.storeSet (i := 0) H rfl i (by simp [placeOf, aoff]) (by simp [cfMid_len]; omega) ?_
      clear H
      intro w H
      simp only [List.set_cons_zero, ← List.map_set] at H
      rw [cfMid_true hmlt (by rw [e2]; simp [hkb])] at H
      ((repeat ((conv => whnf); first | refine an ?_ | ((first | refine H.nw ?_ | refine H.nwD ?_); clear H; intro w _ H) | refine H.ce ?_ | refine H.db ?_ | refine ea ?_ | ((first | refine H.store_0 ?_ | refine H.store_1 ?_ | refine H.store_2 ?_ | refine H.store_3 ?_ | refine H.store_4 ?_ | refine H.store_5 ?_ | refine H.store_6 ?_ | refine H.store_7 ?_ | refine H.store_8 ?_ | refine H.store_9 ?_); (conv => whnf); clear H; intro w H) | refine condT fun _ => ?_ | refine condF fun _ => ?_ | refine condNT fun _ => ?_ | refine condNF fun _ => ?_ | refine H.da (hc1 _ _ (by rfl)) ?_ | refine H.datw hc1 (by rfl) ?_ | refine H.datl hc1 (by rfl) ?_ | refine H.da (hc2 _ _ (by rfl)) ?_ | refine H.datw hc2 (by rfl) ?_ | refine H.datl hc2 (by rfl) ?_ | refine H.da (hc3 _ _ (by rfl)) ?_ | refine H.datw hc3 (by rfl) ?_ | refine H.datl hc3 (by rfl) ?_ | refine H.da (hc4 _ _ (by rfl)) ?_ | refine H.datw hc4 (by rfl) ?_ | refine H.datl hc4 (by rfl) ?_ | refine H.lw ?_ | refine H.ll ?_)); (conv => whnf))
      exact ⟨(by repeat (first | exact trivial | refine ⟨rfl, ?_⟩)), m + 1, (by repeat (first | exact trivial | refine ⟨rfl, ?_⟩)), ⟨by omega, H.sx⟩, by omega⟩
    by_cases hbk : b < k
    rotate_left
    · have e3 : comes l k b = false := by
        cases h : comes l k b with
        | false => rfl
        | true => exact absurd (comes_lt hcyc h) hbk
      ((repeat ((conv => whnf); first | refine an ?_ | ((first | refine H.nw ?_ | refine H.nwD ?_); clear H; intro w _ H) | refine H.ce ?_ | refine H.db ?_ | refine ea ?_ | ((first | refine H.store_0 ?_ | refine H.store_1 ?_ | refine H.store_2 ?_ | refine H.store_3 ?_ | refine H.store_4 ?_ | refine H.store_5 ?_ | refine H.store_6 ?_ | refine H.store_7 ?_ | refine H.store_8 ?_ | refine H.store_9 ?_); (conv => whnf); clear H; intro w H) | refine condT fun _ => ?_ | refine condF fun _ => ?_ | refine condNT fun _ => ?_ | refine condNF fun _ => ?_ | refine H.da (hc1 _ _ (by rfl)) ?_ | refine H.datw hc1 (by rfl) ?_ | refine H.datl hc1 (by rfl) ?_ | refine H.da (hc2 _ _ (by rfl)) ?_ | refine H.datw hc2 (by rfl) ?_ | refine H.datl hc2 (by rfl) ?_ | refine H.da (hc3 _ _ (by rfl)) ?_ | refine H.datw hc3 (by rfl) ?_ | refine H.datl hc3 (by rfl) ?_ | refine H.da (hc4 _ _ (by rfl)) ?_ | refine H.datw hc4 (by rfl) ?_ | refine H.datl hc4 (by rfl) ?_ | refine H.lw ?_ | refine H.ll ?_)); (conv => whnf))
      refine ⟨(by repeat (first | exact trivial | refine ⟨rfl, ?_⟩)), m + 1, (by repeat (first | exact trivial | refine ⟨rfl, ?_⟩)), ⟨by omega, ?_⟩, by omega⟩
      rw [cfMid_false hmlt (by rw [e2, e3]; simp [hkb])]
      exact H.sx
    have c2 : w.cell? ⟨b7, 0 + ((k : Nat) : Int).toNat, none⟩ = some (.bool (comes l k b)) := by
      rw [Nat.zero_add, Int.toNat_natCast]
      refine Rel.celAt H (i := 0) rfl ?_
      have : (cfMid l b i m l[i].sources)[k]? = some (comes l k b) := by
        rw [cfMid, List.getElem?_set_ne (by omega), cfAt_get (by omega)]
        simp [hbk, hki]
      simp [this]
    ((repeat ((conv => whnf); first | refine an ?_ | ((first | refine H.nw ?_ | refine H.nwD ?_); clear H; intro w _ H) | refine H.ce ?_ | refine H.db ?_ | refine ea ?_ | ((first | refine H.store_0 ?_ | refine H.store_1 ?_ | refine H.store_2 ?_ | refine H.store_3 ?_ | refine H.store_4 ?_ | refine H.store_5 ?_ | refine H.store_6 ?_ | refine H.store_7 ?_ | refine H.store_8 ?_ | refine H.store_9 ?_); (conv => whnf); clear H; intro w H) | refine condT fun _ => ?_ | refine condF fun _ => ?_ | refine condNT fun _ => ?_ | refine condNF fun _ => ?_ | refine H.da (hc1 _ _ (by rfl)) ?_ | refine H.datw hc1 (by rfl) ?_ | refine H.datl hc1 (by rfl) ?_ | refine H.da (hc2 _ _ (by rfl)) ?_ | refine H.datw hc2 (by rfl) ?_ | refine H.datl hc2 (by rfl) ?_ | refine H.da (hc3 _ _ (by rfl)) ?_ | refine H.datw hc3 (by rfl) ?_ | refine H.datl hc3 (by rfl) ?_ | refine H.da (hc4 _ _ (by rfl)) ?_ | refine H.datw hc4 (by rfl) ?_ | refine H.datl hc4 (by rfl) ?_ | refine H.lw ?_ | refine H.ll ?_)); (conv => whnf))
    refine condG_split (fun h1 => ?_) (fun h1 => ?_)
    · ((repeat ((conv => whnf); first | refine an ?_ | ((first | refine H.nw ?_ | refine H.nwD ?_); clear H; intro w _ H) | refine H.ce ?_ | refine H.db ?_ | refine ea ?_ | ((first | refine H.store_0 ?_ | refine H.store_1 ?_ | refine H.store_2 ?_ | refine H.store_3 ?_ | refine H.store_4 ?_ | refine H.store_5 ?_ | refine H.store_6 ?_ | refine H.store_7 ?_ | refine H.store_8 ?_ | refine H.store_9 ?_); (conv => whnf); clear H; intro w H) | refine condT fun _ => ?_ | refine condF fun _ => ?_ | refine condNT fun _ => ?_ | refine condNF fun _ => ?_ | refine H.da (hc1 _ _ (by rfl)) ?_ | refine H.datw hc1 (by rfl) ?_ | refine H.datl hc1 (by rfl) ?_ | refine H.da (hc2 _ _ (by rfl)) ?_ | refine H.datw hc2 (by rfl) ?_ | refine H.datl hc2 (by rfl) ?_ | refine H.da (hc3 _ _ (by rfl)) ?_ | refine H.datw hc3 (by rfl) ?_ | refine H.datl hc3 (by rfl) ?_ | refine H.da (hc4 _ _ (by rfl)) ?_ | refine H.datw hc4 (by rfl) ?_ | refine H.datl hc4 (by rfl) ?_ | refine H.lw ?_ | refine H.ll ?_)); (conv => whnf))
      refine Rel.storeSet (i := 0) H rfl i (by simp [placeOf, aoff]) (by simp [cfMid_len]; omega) ?_
      clear H
      intro w H
      simp only [List.set_cons_zero, ← List.map_set] at H
      rw [cfMid_true hmlt (by rw [e2, h1]; simp)] at H
      ((repeat ((conv => whnf); first | refine an ?_ | ((first | refine H.nw ?_ | refine H.nwD ?_); clear H; intro w _ H) | refine H.ce ?_ | refine H.db ?_ | refine ea ?_ | ((first | refine H.store_0 ?_ | refine H.store_1 ?_ | refine H.store_2 ?_ | refine H.store_3 ?_ | refine H.store_4 ?_ | refine H.store_5 ?_ | refine H.store_6 ?_ | refine H.store_7 ?_ | refine H.store_8 ?_ | refine H.store_9 ?_); (conv => whnf); clear H; intro w H) | refine condT fun _ => ?_ | refine condF fun _ => ?_ | refine condNT fun _ => ?_ | refine condNF fun _ => ?_ | refine H.da (hc1 _ _ (by rfl)) ?_ | refine H.datw hc1 (by rfl) ?_ | refine H.datl hc1 (by rfl) ?_ | refine H.da (hc2 _ _ (by rfl)) ?_ | refine H.datw hc2 (by rfl) ?_ | refine H.datl hc2 (by rfl) ?_ | refine H.da (hc3 _ _ (by rfl)) ?_ | refine H.datw hc3 (by rfl) ?_ | refine H.datl hc3 (by rfl) ?_ | refine H.da (hc4 _ _ (by rfl)) ?_ | refine H.datw hc4 (by rfl) ?_ | refine H.datl hc4 (by rfl) ?_ | refine H.lw ?_ | refine H.ll ?_)); (conv => whnf))
      exact ⟨(by repeat (first | exact trivial | refine ⟨rfl, ?_⟩)), m + 1, (by repeat (first | exact trivial | refine ⟨rfl, ?_⟩)), ⟨by omega, H.sx⟩, by omega⟩
    · ((repeat ((conv => whnf); first | refine an ?_ | ((first | refine H.nw ?_ | refine H.nwD ?_); clear H; intro w _ H) | refine H.ce ?_ | refine H.db ?_ | refine ea ?_ | ((first | refine H.store_0 ?_ | refine H.store_1 ?_ | refine H.store_2 ?_ | refine H.store_3 ?_ | refine H.store_4 ?_ | refine H.store_5 ?_ | refine H.store_6 ?_ | refine H.store_7 ?_ | refine H.store_8 ?_ | refine H.store_9 ?_); (conv => whnf); clear H; intro w H) | refine condT fun _ => ?_ | refine condF fun _ => ?_ | refine condNT fun _ => ?_ | refine condNF fun _ => ?_ | refine H.da (hc1 _ _ (by rfl)) ?_ | refine H.datw hc1 (by rfl) ?_ | refine H.datl hc1 (by rfl) ?_ | refine H.da (hc2 _ _ (by rfl)) ?_ | refine H.datw hc2 (by rfl) ?_ | refine H.datl hc2 (by rfl) ?_ | refine H.da (hc3 _ _ (by rfl)) ?_ | refine H.datw hc3 (by rfl) ?_ | refine H.datl hc3 (by rfl) ?_ | refine H.da (hc4 _ _ (by rfl)) ?_ | refine H.datw hc4 (by rfl) ?_ | refine H.datl hc4 (by rfl) ?_ | refine H.lw ?_ | refine H.ll ?_)); (conv => whnf))
      refine ⟨(by repeat (first | exact trivial | refine ⟨rfl, ?_⟩)), m + 1, (by repeat (first | exact trivial | refine ⟨rfl, ?_⟩)), ⟨by omega, ?_⟩, by omega⟩
      rw [cfMid_false hmlt (by rw [e2, h1]; simp [hkb])]
      exact H.sx
end
end Go.Proofs.Ytlhgmigoncmcaaa
