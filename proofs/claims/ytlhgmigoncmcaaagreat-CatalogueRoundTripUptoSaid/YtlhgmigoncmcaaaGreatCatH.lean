/-
  slices.Backward; Find.
-/
import Derived.Test.YtlhgmigoncmcaaaGreatCatG
import Derived.Test.YtlhgmigoncmcaaaGreatVcX
namespace Go.Proofs.YtlhgmigoncmcaaaGreat
open Go Go.RowKit

section
variable {V W : World}
theorem backward_spec (hV : Sub V W) (s : Sl) : Ret Tryz.prog 32 [s.v].toArray W fun v w' => ∃ b, v = .func (.func 72) #[] #[.pointer (some ⟨b, 0, none⟩)] ∧ ∃ V', Sub V V' ∧ Rel W V [] V' w' ∧ Blk V' b [s.v] 41 := by
  have H := Rel.start hV
  refine cal_of_vc tabOk Tryz.func32 rfl (by kernel_rfl) 4 rfl (by simp) [0, 1, 2] ?_
  ((repeat ((conv => whnf); first | refine an ?_ | refine H.ce ?_ | refine H.db ?_ | refine ea ?_ | (refine H.st ?_; (conv => whnf); clear H; intro w H) | refine condT fun _ => ?_ | refine condF fun _ => ?_ | refine condNT fun _ => ?_ | refine condNF fun _ => ?_ | refine H.da (hc1 _ _ (by rfl)) ?_ | refine H.datw hc1 (by rfl) ?_ | refine H.datl hc1 (by rfl) ?_ | refine H.lw ?_ | refine H.ll ?_)); (conv => whnf))
  ((first | refine Rel.nwD H ?_ | refine Rel.nw H ?_); clear H; intro w b H)
  (conv => whnf)
  obtain ⟨V', h1, h2, h3⟩ := H.freezeBlk
  exact ⟨b, rfl, V', h1, h2, h3⟩
/-- what Backward yields -/
def backs (l : List Int) : List (List Value) := (List.range l.length).reverse.map fun i => [iv (i : Nat), iv (l[i]?.getD 0)]
theorem backs_len (l : List Int) : (backs l).length = l.length := by simp [backs]
theorem backs_at {l : List Int} {k : Nat} (hk : k < l.length) : (backs l)[k]? = some [iv ((l.length - 1 - k : Nat) : Int), iv (l[l.length - 1 - k]?.getD 0)] := by
  simp only [backs, List.getElem?_map, List.getElem?_reverse (show k < (List.range l.length).length by simpa using hk), List.length_range]
  rw [List.getElem?_range (by omega)]
  rfl
theorem backward_iter {b : Nat} {s : Sl} {l : List Int} (hb : Blk V b [s.v] 41) (hs : Ints V s l) (hl : l.length ≤ 1099511627776) : IterOk Tryz.prog 72 [.pointer (some ⟨b, 0, none⟩)] (backs l) (fun W => Sub V W) := by
  refine ⟨enters_mk Tryz.func72 rfl (by kernel_rfl), ?_⟩
  intro L W J Jx hS hJ hJx hround h0
  have hlen := hs.len
  refine cal_of_vc tabOk Tryz.func72 rfl (by kernel_rfl) 19 rfl (by simp) [0, 1, 3, 8, 18] ?_
  have hc0 : W.cell? ⟨b, 0, none⟩ = some s.v := (hS _ _ h0).cell (hb.cel rfl)
  ((repeat ((conv => whnf); first | refine And.intro (by first | omega | assumption | exact rfl) ?_ | refine Exists.intro _ (And.intro (by assumption) ?_) | refine Exists.intro _ (Exists.intro _ (And.intro (by assumption) ?_)) | refine Exists.intro _ (And.intro (Blk.cel (by assumption) (by rfl)) ?_))); (conv => whnf))
  refine loop_inv tabOk [0, 1] (fun k : Nat => [(3, .int .i64 ((l.length : Int) - 1 - k))]) (fun k w' => k ≤ l.length ∧ J k w') (fun k _ => l.length - k) 0 ?_
  (conv => whnf)
  refine ⟨⟨by rw [hlen]; simp [get?], trivial⟩, ⟨by omega, h0⟩, ?_⟩
  rintro k w ⟨hk, hj⟩
  (conv => whnf)
  refine condG_dec (fun h4 => ?_) (fun h4 => ?_)
  · have hlt : k < l.length := by omega
    have hsub := hS _ _ hj
    have hc : w.cell? ⟨b, 0, none⟩ = some s.v := hsub.cell (hb.cel rfl)
    obtain ⟨hp, hcc⟩ := hs.get1 (g := iv) (fun _ => rfl) (show l.length - 1 - k < l.length by omega)
    have hcc' : w.cell? ⟨ablk s.a, aoff s.a + ((l.length : Int) - 1 - k).toNat, none⟩ = some (iv (l[l.length - 1 - k]'(by omega))) := by
      rw [show ((l.length : Int) - 1 - k).toNat = l.length - 1 - k by omega]
      exact hsub.cell hcc
    ((repeat ((conv => whnf); first | refine And.intro (by first | omega | assumption | exact rfl) ?_ | refine Exists.intro _ (And.intro (by assumption) ?_) | refine Exists.intro _ (Exists.intro _ (And.intro (by assumption) ?_)) | refine Exists.intro _ (And.intro (Blk.cel (by assumption) (by rfl)) ?_))); (conv => whnf))
    have hy := hround k [iv ((l.length - 1 - k : Nat) : Int), iv (l[l.length - 1 - k]?.getD 0)] w (backs_at hlt) hj
    rw [show ((l.length - 1 - k : Nat) : Int) = (l.length : Int) - 1 - k by omega, show l[l.length - 1 - k]?.getD 0 = l[l.length - 1 - k]'(by omega) by simp [show l.length - 1 - k < l.length by omega]] at hy
    refine hy.mono ?_
    rintro r w3 ⟨ht, hf⟩
    (conv => whnf)
    refine condG_split (fun h6 => ?_) (fun h6 => ?_)
    · (conv => whnf)
      exact .inr (hf (by simpa using h6))
    · ((repeat ((conv => whnf); refine And.intro (by omega) ?_)); (conv => whnf))
      refine ⟨rfl, (by repeat (first | exact trivial | refine ⟨rfl, ?_⟩)), k + 1, ⟨?_, trivial⟩, ⟨by omega, ht (by simpa using h6)⟩, by omega⟩
      simp only [get?]
      congr 2
      omega
  · (conv => whnf)
    rw [show k = l.length by omega, ← backs_len] at hj
    exact .inl hj
/-- the last of the numbers with p, if any -/
def lastAt (p : Nat → Bool) : Nat → Option Nat
  | 0 => none
  | k + 1 => if p k then some k else lastAt p k
def fits (l : List Ent) (name : List UInt8) (ver : Int) (i : Nat) : Bool := named l name i && decide (ver = 0 ∨ (l[i]?.getD default).ver = ver)
def findRes (l : List Ent) (name : List UInt8) (ver : Int) : Int × Int × Int :=
  if (histCode l name).1 ≠ 0 then (0, (histCode l name).1, (histCode l name).2) else if ¬ (0 ≤ ver ∧ ver ≤ 9999) then (0, 4, -3)
  else match lastAt (fits l name ver) l.length with | some i => (i, 0, 0) | none => (0, 12, -2)
theorem picks_rev {p : Nat → Bool} : ∀ {n k : Nat}, k < (picks p n).length → ∃ i : Nat, (picks p n)[(picks p n).length - 1 - k]? = some (i : Int) ∧ i < n ∧ p i = true ∧ ∀ q : Nat → Bool, (∀ j, q j = true → p j = true) → (∀ m, m < k → ∀ j : Nat, (picks p n)[(picks p n).length - 1 - m]? = some (j : Int) → q j = false) → q i = true → lastAt q n = some i
  | 0, k, h => by simp [picks] at h
  | n + 1, k, h => by
    simp only [picks] at h ⊢
    by_cases hp : p n = true
    · simp only [hp, if_true, List.length_append, List.length_singleton] at h ⊢
      cases k with
      | zero =>
        refine ⟨n, ?_, by omega, hp, fun q _ _ hq => by simp [lastAt, hq]⟩
        rw [show (picks p n).length + 1 - 1 - 0 = (picks p n).length by omega]
        simp
      | succ k =>
        obtain ⟨i, h1, h2, h3, h4⟩ := picks_rev (p := p) (n := n) (k := k) (by omega)
        refine ⟨i, ?_, by omega, h3, fun q hqp hq hi => ?_⟩
        · rw [show (picks p n).length + 1 - 1 - (k + 1) = (picks p n).length - 1 - k by omega, List.getElem?_append_left (by omega)]
          exact h1
        · have hn : q n = false := by
            refine hq 0 (by omega) n ?_
            rw [show (picks p n).length + 1 - 1 - 0 = (picks p n).length by omega]
            simp
          simp only [lastAt, hn]
          refine h4 q hqp (fun m hm j hj => hq (m + 1) (by omega) j ?_) hi
          rw [show (picks p n).length + 1 - 1 - (m + 1) = (picks p n).length - 1 - m by omega, List.getElem?_append_left (by omega)]
          exact hj
    · simp only [hp] at h ⊢
      obtain ⟨i, h1, h2, h3, h4⟩ := picks_rev (p := p) (n := n) (k := k) h
      refine ⟨i, h1, by omega, h3, fun q hqp hq hi => ?_⟩
      have hn : q n = false := by
        cases hqn : q n with
        | false => rfl
        | true => exact absurd (hqp n hqn) hp
      simp only [lastAt, hn]
      exact h4 q hqp hq hi
theorem lastAt_none {q : Nat → Bool} {n : Nat} (h : ∀ i, i < n → q i = false) : lastAt q n = none := by
  induction n with
  | zero => rfl
  | succ n ih => simp only [lastAt, h n (by omega)]; exact ih fun i hi => h i (by omega)
set_option maxRecDepth 100000 in
set_option maxHeartbeats 4000000 in
theorem find_spec (hV : Sub V W) {s : Sl} {l : List Ent} (hs : Ents V s l) (hl : l.length ≤ 1099511627776) (name : List UInt8) (ver : Int) : Ret Tryz.prog 12 [catV s, str name, iv ver].toArray W fun v w' => v = .tuple #[iv (findRes l name ver).1, faultV (findRes l name ver).2.1 (findRes l name ver).2.2] ∧ ∃ V', Sub V V' ∧ Rel W V [] V' w' := by
  have H := Rel.start hV
  have hlen := hs.len
  have F : findRes l name ver = _ := findRes.eq_1 l name ver
  refine cal_of_vc tabOk Tryz.func12 rfl (by kernel_rfl) 45 rfl (by simp) [0, 1, 2, 3, 5, 6, 7, 8, 9, 11, 20, 24, 27, 28, 29, 41] ?_
  ((repeat ((conv => whnf); first | refine an ?_ | refine H.ce ?_ | refine H.db ?_ | refine ea ?_ | (refine H.st ?_; (conv => whnf); clear H; intro w H) | refine condT fun _ => ?_ | refine condF fun _ => ?_ | refine condNT fun _ => ?_ | refine condNF fun _ => ?_ | refine H.da (hc1 _ _ (by rfl)) ?_ | refine H.datw hc1 (by rfl) ?_ | refine H.datl hc1 (by rfl) ?_ | refine H.lw ?_ | refine H.ll ?_)); (conv => whnf))
  ((first | refine Rel.nwD H ?_ | refine Rel.nw H ?_); clear H; intro w b3 H)
  ((repeat ((conv => whnf); first | refine an ?_ | refine H.ce ?_ | refine H.db ?_ | refine ea ?_ | (refine H.st ?_; (conv => whnf); clear H; intro w H) | refine condT fun _ => ?_ | refine condF fun _ => ?_ | refine condNT fun _ => ?_ | refine condNF fun _ => ?_ | refine H.da (hc1 _ _ (by rfl)) ?_ | refine H.datw hc1 (by rfl) ?_ | refine H.datl hc1 (by rfl) ?_ | refine H.lw ?_ | refine H.ll ?_)); (conv => whnf))
  ((first | refine Rel.nwD H ?_ | refine Rel.nw H ?_); clear H; intro w b5 H)
  ((repeat ((conv => whnf); first | refine an ?_ | refine H.ce ?_ | refine H.db ?_ | refine ea ?_ | (refine H.st ?_; (conv => whnf); clear H; intro w H) | refine condT fun _ => ?_ | refine condF fun _ => ?_ | refine condNT fun _ => ?_ | refine condNF fun _ => ?_ | refine H.da (hc1 _ _ (by rfl)) ?_ | refine H.datw hc1 (by rfl) ?_ | refine H.datl hc1 (by rfl) ?_ | refine H.lw ?_ | refine H.ll ?_)); (conv => whnf))
  ((first | refine Rel.nwD H ?_ | refine Rel.nw H ?_); clear H; intro w b6 H)
  ((repeat ((conv => whnf); first | refine an ?_ | refine H.ce ?_ | refine H.db ?_ | refine ea ?_ | (refine H.st ?_; (conv => whnf); clear H; intro w H) | refine condT fun _ => ?_ | refine condF fun _ => ?_ | refine condNT fun _ => ?_ | refine condNF fun _ => ?_ | refine H.da (hc1 _ _ (by rfl)) ?_ | refine H.datw hc1 (by rfl) ?_ | refine H.datl hc1 (by rfl) ?_ | refine H.lw ?_ | refine H.ll ?_)); (conv => whnf))
  ((first | refine Rel.nwD H ?_ | refine Rel.nw H ?_); clear H; intro w b7 H)
  ((repeat ((conv => whnf); first | refine an ?_ | ((first | refine H.nwD ?_ | refine H.nw ?_); clear H; intro w _ H) | refine H.ce ?_ | refine H.db ?_ | refine ea ?_ | (refine H.st ?_; (conv => whnf); clear H; intro w H) | refine condT fun _ => ?_ | refine condF fun _ => ?_ | refine condNT fun _ => ?_ | refine condNF fun _ => ?_ | refine H.da (hc1 _ _ (by rfl)) ?_ | refine H.datw hc1 (by rfl) ?_ | refine H.datl hc1 (by rfl) ?_ | refine H.lw ?_ | refine H.ll ?_)); (conv => whnf))
  refine (history_spec H.data hs hl name).use ?_
  rintro v w ⟨V1, hV1, K, hv⟩
  replace H := H.call K
  rcases hv with ⟨hc, rfl⟩ | ⟨hc, t, rfl, ht⟩
  · rw [if_pos hc] at F
    ((repeat ((conv => whnf); first | refine an ?_ | refine H.ce ?_ | refine H.db ?_ | refine ea ?_ | (refine H.st ?_; (conv => whnf); clear H; intro w H) | refine condT fun _ => ?_ | refine condF fun _ => ?_ | refine condNT fun _ => ?_ | refine condNF fun _ => ?_ | refine H.da (hc1 _ _ (by rfl)) ?_ | refine H.datw hc1 (by rfl) ?_ | refine H.datl hc1 (by rfl) ?_ | refine H.lw ?_ | refine H.ll ?_)); (conv => whnf))
    ((first | refine Rel.nwD H ?_ | refine Rel.nw H ?_); clear H; intro w b9 H)
    ((repeat ((conv => whnf); first | refine an ?_ | ((first | refine H.nwD ?_ | refine H.nw ?_); clear H; intro w _ H) | refine H.ce ?_ | refine H.db ?_ | refine ea ?_ | (refine H.st ?_; (conv => whnf); clear H; intro w H) | refine condT fun _ => ?_ | refine condF fun _ => ?_ | refine condNT fun _ => ?_ | refine condNF fun _ => ?_ | refine H.da (hc1 _ _ (by rfl)) ?_ | refine H.datw hc1 (by rfl) ?_ | refine H.datl hc1 (by rfl) ?_ | refine H.lw ?_ | refine H.ll ?_)); (conv => whnf))
    refine draw_vcX tabOk mixed (Sav [b6]) (fun _ _ _ => Sav.trans) [1] [0] [0, 1, 2] (by kernel_rfl) ?_
    intro w hd
    replace H := H.ext hd.ext
    have hne : b9 ≠ b6 := fun e => (List.pairwise_cons.1 H.apart).1 (.blk b6 [iv 0] 3) (by simp) b9 rfl (by rw [e]; rfl)
    ((repeat ((conv => whnf); first | refine an ?_ | ((first | refine H.nwD ?_ | refine H.nw ?_); clear H; intro w _ H) | refine H.ce ?_ | refine H.db ?_ | refine ea ?_ | (refine H.st ?_; (conv => whnf); clear H; intro w H) | refine condT fun _ => ?_ | refine condF fun _ => ?_ | refine condNT fun _ => ?_ | refine condNF fun _ => ?_ | refine H.da (hc1 _ _ (by rfl)) ?_ | refine H.datw hc1 (by rfl) ?_ | refine H.datl hc1 (by rfl) ?_ | refine H.lw ?_ | refine H.ll ?_)); (conv => whnf))
    refine ⟨fun w1 hr => ?_, ?_⟩
    · have k' := (H.bk_0).bySav hr (by simpa using hne)
      ((repeat ((conv => whnf); first | refine And.intro (by first | omega | assumption | exact rfl) ?_ | refine Exists.intro _ (And.intro (by assumption) ?_) | refine Exists.intro _ (Exists.intro _ (And.intro (by assumption) ?_)) | refine Exists.intro _ (And.intro (Blk.cel (by assumption) (by rfl)) ?_))); (conv => whnf))
    (conv => whnf)
    refine ⟨_, _, H.bk_2, ?_⟩
    (conv => whnf)
    intro w' hu
    have hsv : Sav [b6] w w' := Sav.upd hu (by simp)
    replace H := Rel.updAt H (i := 2) rfl hu
    refine ⟨hsv, ?_⟩
    clear hsv hu
    ((repeat ((conv => whnf); first | refine an ?_ | ((first | refine H.nwD ?_ | refine H.nw ?_); clear H; intro w _ H) | refine H.ce ?_ | refine H.db ?_ | refine ea ?_ | (refine H.st ?_; (conv => whnf); clear H; intro w H) | refine condT fun _ => ?_ | refine condF fun _ => ?_ | refine condNT fun _ => ?_ | refine condNF fun _ => ?_ | refine H.da (hc1 _ _ (by rfl)) ?_ | refine H.datw hc1 (by rfl) ?_ | refine H.datl hc1 (by rfl) ?_ | refine H.lw ?_ | refine H.ll ?_)); (conv => whnf))
    exact ⟨by rw [F], V1, hV1, H.sx⟩
  rw [if_neg (fun h => h hc)] at F
  ((repeat ((conv => whnf); first | refine an ?_ | ((first | refine H.nwD ?_ | refine H.nw ?_); clear H; intro w _ H) | refine H.ce ?_ | refine H.db ?_ | refine ea ?_ | (refine H.st ?_; (conv => whnf); clear H; intro w H) | refine condT fun _ => ?_ | refine condF fun _ => ?_ | refine condNT fun _ => ?_ | refine condNF fun _ => ?_ | refine H.da (hc1 _ _ (by rfl)) ?_ | refine H.datw hc1 (by rfl) ?_ | refine H.datl hc1 (by rfl) ?_ | refine H.lw ?_ | refine H.ll ?_)); (conv => whnf))
  refine (in_cat _ _ _ _).use ?_
  rintro v w ⟨rfl, rfl⟩
  (conv => whnf)
  refine condG_ndec (fun h1 => ?_) (fun h1 => ?_)
  · rw [if_pos h1] at F
    ((repeat ((conv => whnf); first | refine an ?_ | ((first | refine H.nwD ?_ | refine H.nw ?_); clear H; intro w _ H) | refine H.ce ?_ | refine H.db ?_ | refine ea ?_ | (refine H.st ?_; (conv => whnf); clear H; intro w H) | refine condT fun _ => ?_ | refine condF fun _ => ?_ | refine condNT fun _ => ?_ | refine condNF fun _ => ?_ | refine H.da (hc1 _ _ (by rfl)) ?_ | refine H.datw hc1 (by rfl) ?_ | refine H.datl hc1 (by rfl) ?_ | refine H.lw ?_ | refine H.ll ?_)); (conv => whnf))
    refine (fault_cat H.data 4 (-3)).use ?_
    rintro v w ⟨rfl, K⟩
    replace H := H.call K
    ((repeat ((conv => whnf); first | refine an ?_ | ((first | refine H.nwD ?_ | refine H.nw ?_); clear H; intro w _ H) | refine H.ce ?_ | refine H.db ?_ | refine ea ?_ | (refine H.st ?_; (conv => whnf); clear H; intro w H) | refine condT fun _ => ?_ | refine condF fun _ => ?_ | refine condNT fun _ => ?_ | refine condNF fun _ => ?_ | refine H.da (hc1 _ _ (by rfl)) ?_ | refine H.datw hc1 (by rfl) ?_ | refine H.datl hc1 (by rfl) ?_ | refine H.lw ?_ | refine H.ll ?_)); (conv => whnf))
    exact ⟨by rw [F], V1, hV1, H.sx⟩
  rw [if_neg (fun h => h h1)] at F
  ((repeat ((conv => whnf); first | refine an ?_ | ((first | refine H.nwD ?_ | refine H.nw ?_); clear H; intro w _ H) | refine H.ce ?_ | refine H.db ?_ | refine ea ?_ | (refine H.st ?_; (conv => whnf); clear H; intro w H) | refine condT fun _ => ?_ | refine condF fun _ => ?_ | refine condNT fun _ => ?_ | refine condNF fun _ => ?_ | refine H.da (hc1 _ _ (by rfl)) ?_ | refine H.datw hc1 (by rfl) ?_ | refine H.datl hc1 (by rfl) ?_ | refine H.lw ?_ | refine H.ll ?_)); (conv => whnf))
  refine (backward_spec H.data t).use ?_
  rintro v w ⟨bb, rfl, V2, hV2, K, hbb⟩
  replace H := H.call K
  have hc60 : l.length ≤ 60 := by
    have : (catFault l).1 = 0 := by
      unfold histCode at hc
      split at hc
      · contradiction
      · rename_i h; simpa using h
    exact (catFault_zero this).2.1
  have hpl := picks_len (named l name) l.length
  have hs2 := hs.up (hV1.trans hV2)
  replace H : Rel W V [.blk b7 [iv 0, iv 0] 28, .blk b6 [iv 0] 3, .blk b5 [iv ver] 3, .blk b3 [s.v] 24] V2 w := H.sx
  have hB := H.base.size
  (conv => whnf)
  refine range_rel tabOk rfl (by (conv => whnf)) (backward_iter hbb (ht.up hV2) (by omega)) ?_ rfl (σ := Unit) (τ := Nat)
    (fun _ _ => [.blk b7 [iv 0, iv 0] 28, .blk b6 [iv 0] 3, .blk b5 [iv ver] 3, .blk b3 [s.v] 24]) (fun _ _ => rfl)
    (fun k _ _ => ∀ m, m < k → ∀ j : Nat, (picks (named l name) l.length)[(picks (named l name) l.length).length - 1 - m]? = some (j : Int) → fits l name ver j = false)
    (fun _ i => [.blk b7 [iv 0, iv 0] 28, .blk b6 [iv (i : Nat)] 3]) (fun _ _ => rfl) (fun c i _ => c = .ret ∧ lastAt (fits l name ver) l.length = some i)
    () (Sub.refl _) H (fun m hm => by omega) ?_ ?_ ?_
  · intro y hy
    obtain ⟨i, _, rfl⟩ := List.mem_map.1 hy
    rfl
  · clear H
    rintro L k x w _ V3 hx hV3 hF H
    have hk : k < (picks (named l name) l.length).length := by
      have := (List.getElem?_eq_some_iff.1 hx).1
      rwa [backs_len] at this
    obtain ⟨i, hi1, hi2, hi3, hi4⟩ := picks_rev (p := named l name) (n := l.length) hk
    rw [backs_at hk, hi1, Option.getD_some] at hx
    cases hx
    (conv => whnf)
    refine ⟨rfl, Keep.refl _ _, fun w' htw => ?_⟩
    obtain ⟨X, H, hX⟩ := (H.tw rfl hB htw).marks rfl hB
    simp only [List.cons_append, List.nil_append] at H
    obtain ⟨hp, eh, hok, hc1⟩ := (hs2.up hV3).get hi2
    have e1 : fits l name ver i = decide (ver = 0 ∨ l[i].ver = ver) := by simp [fits, hi3, hi2]
    have hlast : (ver = 0 ∨ l[i].ver = ver) → lastAt (fits l name ver) l.length = some i := fun h =>
      hi4 _ (fun j hj => by simp only [fits, Bool.and_eq_true] at hj; exact hj.1) hF (by rw [e1]; simpa using h)
    rw [show w' = w' from rfl]
    clear htw
    generalize w' = w at H hX
    ((repeat ((conv => whnf); first | refine an ?_ | ((first | refine H.nwD ?_ | refine H.nw ?_); clear H; intro w _ H) | refine H.ce ?_ | refine H.db ?_ | refine ea ?_ | (refine H.st ?_; (conv => whnf); clear H; intro w H) | refine condT fun _ => ?_ | refine condF fun _ => ?_ | refine condNT fun _ => ?_ | refine condNF fun _ => ?_ | refine H.da (hc1 _ _ (by rfl)) ?_ | refine H.datw hc1 (by rfl) ?_ | refine H.datl hc1 (by rfl) ?_ | refine H.lw ?_ | refine H.ll ?_)); (conv => whnf))
    ((first | refine draw_vc (id := 3) tabOk mixed [1] [0, 1, 2] (by kernel_rfl) ?_ | refine draw_vc (id := 8) tabOk mixed [] [0, 1, 2, 3, 4, 5, 6, 7, 8, 9, 10, 11] (by kernel_rfl) ?_); intro w hdw; replace H := Rel.ext H hdw.ext)
    by_cases h0 : ver = 0
    · ((repeat ((conv => whnf); first | refine an ?_ | ((first | refine H.nwD ?_ | refine H.nw ?_); clear H; intro w _ H) | refine H.ce ?_ | refine H.db ?_ | refine ea ?_ | (refine H.st ?_; (conv => whnf); clear H; intro w H) | refine condT fun _ => ?_ | refine condF fun _ => ?_ | refine condNT fun _ => ?_ | refine condNF fun _ => ?_ | refine H.da (hc1 _ _ (by rfl)) ?_ | refine H.datw hc1 (by rfl) ?_ | refine H.datl hc1 (by rfl) ?_ | refine H.lw ?_ | refine H.ll ?_)); (conv => whnf))
      exact ⟨hX _ (fun r hr => H.laid r (by simp [hr])), V3, i, hV3, ⟨rfl, hlast (.inl h0)⟩, H.sx⟩
    ((repeat ((conv => whnf); first | refine an ?_ | ((first | refine H.nwD ?_ | refine H.nw ?_); clear H; intro w _ H) | refine H.ce ?_ | refine H.db ?_ | refine ea ?_ | (refine H.st ?_; (conv => whnf); clear H; intro w H) | refine condT fun _ => ?_ | refine condF fun _ => ?_ | refine condNT fun _ => ?_ | refine condNF fun _ => ?_ | refine H.da (hc1 _ _ (by rfl)) ?_ | refine H.datw hc1 (by rfl) ?_ | refine H.datl hc1 (by rfl) ?_ | refine H.lw ?_ | refine H.ll ?_)); (conv => whnf))
    refine condG_dec (fun h2 => ?_) (fun h2 => ?_)
    · ((repeat ((conv => whnf); first | refine an ?_ | ((first | refine H.nwD ?_ | refine H.nw ?_); clear H; intro w _ H) | refine H.ce ?_ | refine H.db ?_ | refine ea ?_ | (refine H.st ?_; (conv => whnf); clear H; intro w H) | refine condT fun _ => ?_ | refine condF fun _ => ?_ | refine condNT fun _ => ?_ | refine condNF fun _ => ?_ | refine H.da (hc1 _ _ (by rfl)) ?_ | refine H.datw hc1 (by rfl) ?_ | refine H.datl hc1 (by rfl) ?_ | refine H.lw ?_ | refine H.ll ?_)); (conv => whnf))
      exact ⟨hX _ (fun r hr => H.laid r (by simp [hr])), V3, i, hV3, ⟨rfl, hlast (.inr h2)⟩, H.sx⟩
    · ((repeat ((conv => whnf); first | refine an ?_ | ((first | refine H.nwD ?_ | refine H.nw ?_); clear H; intro w _ H) | refine H.ce ?_ | refine H.db ?_ | refine ea ?_ | (refine H.st ?_; (conv => whnf); clear H; intro w H) | refine condT fun _ => ?_ | refine condF fun _ => ?_ | refine condNT fun _ => ?_ | refine condNF fun _ => ?_ | refine H.da (hc1 _ _ (by rfl)) ?_ | refine H.datw hc1 (by rfl) ?_ | refine H.datl hc1 (by rfl) ?_ | refine H.lw ?_ | refine H.ll ?_)); (conv => whnf))
      refine ⟨hX _ (fun r hr => H.laid r (by simp [hr])), V3, (), hV3, fun m hm j hj => ?_, H.sx⟩
      by_cases hmk : m = k
      · subst hmk
        rw [hi1] at hj
        have : i = j := by have := Option.some.inj hj; omega
        subst this
        rw [e1]
        simp [h0, h2]
      · exact hF m (by omega) j hj
  · clear H
    rintro D w _ V3 hV3 hF H
    simp only [List.cons_append, List.nil_append] at H
    rw [backs_len] at hF
    have hno : lastAt (fits l name ver) l.length = none := lastAt_none fun i hi => by
      cases hf : fits l name ver i with
      | false => rfl
      | true =>
        have hn : named l name i = true := by simp only [fits, Bool.and_eq_true] at hf; exact hf.1
        obtain ⟨q, hq⟩ := List.getElem?_of_mem (picks_mem.2 ⟨i, rfl, hi, hn⟩)
        have hql := (List.getElem?_eq_some_iff.1 hq).1
        have := hF ((picks (named l name) l.length).length - 1 - q) (by omega) i (by rw [show (picks (named l name) l.length).length - 1 - ((picks (named l name) l.length).length - 1 - q) = q by omega]; exact hq)
        rw [hf] at this
        cases this
    rw [hno] at F
    ((repeat ((conv => whnf); first | refine an ?_ | ((first | refine H.nwD ?_ | refine H.nw ?_); clear H; intro w _ H) | refine H.ce ?_ | refine H.db ?_ | refine ea ?_ | (refine H.st ?_; (conv => whnf); clear H; intro w H) | refine condT fun _ => ?_ | refine condF fun _ => ?_ | refine condNT fun _ => ?_ | refine condNF fun _ => ?_ | refine H.da (hc1 _ _ (by rfl)) ?_ | refine H.datw hc1 (by rfl) ?_ | refine H.datl hc1 (by rfl) ?_ | refine H.lw ?_ | refine H.ll ?_)); (conv => whnf))
    refine (fault_cat H.data 12 (-2)).use ?_
    rintro v w ⟨rfl, K⟩
    replace H := H.call K
    ((repeat ((conv => whnf); first | refine an ?_ | ((first | refine H.nwD ?_ | refine H.nw ?_); clear H; intro w _ H) | refine H.ce ?_ | refine H.db ?_ | refine ea ?_ | (refine H.st ?_; (conv => whnf); clear H; intro w H) | refine condT fun _ => ?_ | refine condF fun _ => ?_ | refine condNT fun _ => ?_ | refine condNF fun _ => ?_ | refine H.da (hc1 _ _ (by rfl)) ?_ | refine H.datw hc1 (by rfl) ?_ | refine H.datl hc1 (by rfl) ?_ | refine H.lw ?_ | refine H.ll ?_)); (conv => whnf))
    refine ⟨H.mark (by simp), fun w' ht => ?_⟩
    replace H := H.unmark (own' := [.blk b7 [iv 12, iv (-2)] 28, .blk b6 [iv 0] 3]) (by repeat (first | exact List.Sublist.refl _ | refine List.Sublist.cons_cons _ ?_ | refine List.Sublist.cons _ ?_ | exact List.nil_sublist _)) rfl (by simp; rfl) ht
    generalize w' = w at H
    ((repeat ((conv => whnf); first | refine an ?_ | ((first | refine H.nwD ?_ | refine H.nw ?_); clear H; intro w _ H) | refine H.ce ?_ | refine H.db ?_ | refine ea ?_ | (refine H.st ?_; (conv => whnf); clear H; intro w H) | refine condT fun _ => ?_ | refine condF fun _ => ?_ | refine condNT fun _ => ?_ | refine condNF fun _ => ?_ | refine H.da (hc1 _ _ (by rfl)) ?_ | refine H.datw hc1 (by rfl) ?_ | refine H.datl hc1 (by rfl) ?_ | refine H.lw ?_ | refine H.ll ?_)); (conv => whnf))
    exact ⟨by rw [F], V3, (hV1.trans hV2).trans hV3, H.sx⟩
  · clear H
    rintro D c w i V3 hV3 ⟨rfl, hlast⟩ H
    simp only [List.cons_append, List.nil_append] at H
    rw [hlast] at F
    ((repeat ((conv => whnf); first | refine an ?_ | ((first | refine H.nwD ?_ | refine H.nw ?_); clear H; intro w _ H) | refine H.ce ?_ | refine H.db ?_ | refine ea ?_ | (refine H.st ?_; (conv => whnf); clear H; intro w H) | refine condT fun _ => ?_ | refine condF fun _ => ?_ | refine condNT fun _ => ?_ | refine condNF fun _ => ?_ | refine H.da (hc1 _ _ (by rfl)) ?_ | refine H.datw hc1 (by rfl) ?_ | refine H.datl hc1 (by rfl) ?_ | refine H.lw ?_ | refine H.ll ?_)); (conv => whnf))
    refine ⟨H.mark (by simp), fun w' ht => ?_⟩
    replace H := H.unmark (own' := [.blk b7 [iv 0, iv 0] 28, .blk b6 [iv (i : Nat)] 3]) (by repeat (first | exact List.Sublist.refl _ | refine List.Sublist.cons_cons _ ?_ | refine List.Sublist.cons _ ?_ | exact List.nil_sublist _)) rfl (by simp; rfl) ht
    generalize w' = w at H
    ((repeat ((conv => whnf); first | refine an ?_ | ((first | refine H.nwD ?_ | refine H.nw ?_); clear H; intro w _ H) | refine H.ce ?_ | refine H.db ?_ | refine ea ?_ | (refine H.st ?_; (conv => whnf); clear H; intro w H) | refine condT fun _ => ?_ | refine condF fun _ => ?_ | refine condNT fun _ => ?_ | refine condNF fun _ => ?_ | refine H.da (hc1 _ _ (by rfl)) ?_ | refine H.datw hc1 (by rfl) ?_ | refine H.datl hc1 (by rfl) ?_ | refine H.lw ?_ | refine H.ll ?_)); (conv => whnf))
    exact ⟨by rw [F], V3, (hV1.trans hV2).trans hV3, H.sx⟩
end
end Go.Proofs.YtlhgmigoncmcaaaGreat
