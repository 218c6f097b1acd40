/-
  The example that each law of catalogues begins with.
-/
import Derived.Test.YtlhgmigoncmcaaaGreatCatL
namespace Go.Proofs.YtlhgmigoncmcaaaGreat
open Go Go.RowKit

section
variable {V W : World}
theorem ints_ref (hV : Sub V W) {x y : Sl} {a b : List Int} (hx : Ints V x a) (hy : Ints V y b) (ha : a.length ≤ 1099511627776) : Ret Tryz.prog 17 [x.v, y.v].toArray W fun v w' => v = .bool (decide (a = b)) ∧ Rel W V [] V w' := by
  have H := Rel.start hV
  have h1 := hx.len
  have h2 := hy.len
  refine cal_of_vc tabOk Tryz.func17 rfl (by kernel_rfl) 26 rfl (by simp) [0, 1, 4, 5, 10, 14, 25] ?_
  by_cases hl : a.length = b.length
  rotate_left
  · ((repeat ((conv => whnf); first | refine an ?_ | ((first | refine H.nwD ?_ | refine H.nw ?_); clear H; intro w _ H) | refine H.ce ?_ | refine H.db ?_ | refine ea ?_ | (refine H.st ?_; (conv => whnf); clear H; intro w H) | refine condT fun _ => ?_ | refine condF fun _ => ?_ | refine condNT fun _ => ?_ | refine condNF fun _ => ?_ | refine H.lw ?_ | refine H.ll ?_)); (conv => whnf))
    refine ⟨?_, H⟩
    have : a ≠ b := fun e => hl (by rw [e])
    simp [this]
  ((repeat ((conv => whnf); first | refine an ?_ | ((first | refine H.nwD ?_ | refine H.nw ?_); clear H; intro w _ H) | refine H.ce ?_ | refine H.db ?_ | refine ea ?_ | (refine H.st ?_; (conv => whnf); clear H; intro w H) | refine condT fun _ => ?_ | refine condF fun _ => ?_ | refine condNT fun _ => ?_ | refine condNF fun _ => ?_ | refine H.lw ?_ | refine H.ll ?_)); (conv => whnf))
  refine loop_inv (S := Nat) tabOk [0, 1, 10] (fun k => [(5, iv k)]) (fun k w' => k ≤ a.length ∧ (∀ j, j < k → a[j]? = b[j]?) ∧ Rel W V [] V w') (fun k _ => a.length - k) 0 ?_
  (conv => whnf)
  refine ⟨(by repeat (first | exact trivial | refine ⟨rfl, ?_⟩)), ⟨by omega, by omega, H⟩, ?_⟩
  clear H
  rintro k w ⟨hk, hj, H⟩
  by_cases hka : k < a.length
  · have hkb : k < b.length := by omega
    obtain ⟨hp, hc⟩ := hx.get1 (g := iv) (fun _ => rfl) hka
    obtain ⟨hp', hc'⟩ := hy.get1 (g := iv) (fun _ => rfl) hkb
    ((repeat ((conv => whnf); first | refine an ?_ | ((first | refine H.nwD ?_ | refine H.nw ?_); clear H; intro w _ H) | refine H.ce ?_ | refine H.db ?_ | refine ea ?_ | (refine H.st ?_; (conv => whnf); clear H; intro w H) | refine condT fun _ => ?_ | refine condF fun _ => ?_ | refine condNT fun _ => ?_ | refine condNF fun _ => ?_ | refine H.lw ?_ | refine H.ll ?_)); (conv => whnf))
    ((first | refine draw_vc (id := 6) tabOk mixed [] [0, 1, 2, 3, 4, 5, 6, 7, 8] (by kernel_rfl) ?_); intro w hdw; replace H := Rel.ext H hdw.ext)
    ((repeat ((conv => whnf); first | refine an ?_ | ((first | refine H.nwD ?_ | refine H.nw ?_); clear H; intro w _ H) | refine H.ce ?_ | refine H.db ?_ | refine ea ?_ | (refine H.st ?_; (conv => whnf); clear H; intro w H) | refine condT fun _ => ?_ | refine condF fun _ => ?_ | refine condNT fun _ => ?_ | refine condNF fun _ => ?_ | refine H.lw ?_ | refine H.ll ?_)); (conv => whnf))
    refine condG_dec (fun h5 => ?_) (fun h5 => ?_)
    · ((repeat ((conv => whnf); first | refine an ?_ | ((first | refine H.nwD ?_ | refine H.nw ?_); clear H; intro w _ H) | refine H.ce ?_ | refine H.db ?_ | refine ea ?_ | (refine H.st ?_; (conv => whnf); clear H; intro w H) | refine condT fun _ => ?_ | refine condF fun _ => ?_ | refine condNT fun _ => ?_ | refine condNF fun _ => ?_ | refine H.lw ?_ | refine H.ll ?_)); (conv => whnf))
      refine ⟨?_, H⟩
      have : a ≠ b := by
        intro e; subst e
        exact h5 rfl
      simp [this]
    · ((repeat ((conv => whnf); first | refine an ?_ | ((first | refine H.nwD ?_ | refine H.nw ?_); clear H; intro w _ H) | refine H.ce ?_ | refine H.db ?_ | refine ea ?_ | (refine H.st ?_; (conv => whnf); clear H; intro w H) | refine condT fun _ => ?_ | refine condF fun _ => ?_ | refine condNT fun _ => ?_ | refine condNF fun _ => ?_ | refine H.lw ?_ | refine H.ll ?_)); (conv => whnf))
      refine ⟨(by repeat (first | exact trivial | refine ⟨rfl, ?_⟩)), k + 1, (by repeat (first | exact trivial | refine ⟨rfl, ?_⟩)), ⟨by omega, ?_, H⟩, by omega⟩
      intro j hjk
      by_cases e : j = k
      · subst e
        simp only [hka, hkb, List.getElem?_eq_getElem]
        exact congrArg some (Decidable.of_not_not h5)
      · exact hj j (by omega)
  · ((repeat ((conv => whnf); first | refine an ?_ | ((first | refine H.nwD ?_ | refine H.nw ?_); clear H; intro w _ H) | refine H.ce ?_ | refine H.db ?_ | refine ea ?_ | (refine H.st ?_; (conv => whnf); clear H; intro w H) | refine condT fun _ => ?_ | refine condF fun _ => ?_ | refine condNT fun _ => ?_ | refine condNF fun _ => ?_ | refine H.lw ?_ | refine H.ll ?_)); (conv => whnf))
    refine ⟨?_, H⟩
    have : a = b := by
      apply List.ext_getElem?
      intro j
      by_cases hjl : j < k
      · exact hj j hjl
      · rw [List.getElem?_eq_none (by omega), List.getElem?_eq_none (by omega)]
    simp [this]
def smp (name : List UInt8) (ver : Int) (srcs : List RefD) : Ent := ⟨name, ver, 0, 5, 0, fun _ => 0, srcs, [], 0, 0, 0, 0, fun _ => 0, []⟩
set_option maxRecDepth 100000 in
theorem entry_spec (hV : Sub V W) (name : List UInt8) (ver : Int) (s : Sl) (srcs : List RefD) : Ret Tryz.prog 29 [str name, iv ver, s.v].toArray W fun v w' => v = .agg (entC (smp name ver srcs) ⟨s, ⟨none, 0, 0⟩, ⟨none, 0, 0⟩⟩).toArray ∧ Rel W V [] V w' := by
  have H := Rel.start hV
  refine cal_of_vc tabOk Tryz.func29 rfl (by kernel_rfl) 11 rfl (by simp) [0, 1, 2, 6] ?_
  ((repeat ((conv => whnf); first | refine an ?_ | ((first | refine H.nwD ?_ | refine H.nw ?_); clear H; intro w _ H) | refine H.ce ?_ | refine H.db ?_ | refine ea ?_ | (refine H.st ?_; (conv => whnf); clear H; intro w H) | refine condT fun _ => ?_ | refine condF fun _ => ?_ | refine condNT fun _ => ?_ | refine condNF fun _ => ?_ | refine H.lw ?_ | refine H.ll ?_)); (conv => whnf))
  exact H.sx
def sample : List Ent := [smp [97] 2 [], smp [97] 5 [⟨[97], 2⟩], smp [98] 1 [⟨[97], 5⟩, ⟨[99], 1⟩]]
theorem blk_slf {α : Type} {f : α → List Value} {V : World} {b : Nat} {c : List Value} {t : TypeId} {l : List α} {n : Nat} (h : Blk V b c t) (hc : c = l.flatMap f) (hn : n = l.length) : SlF f V ⟨some ⟨b, 0, none⟩, n, n⟩ l := by
  subst hc hn
  exact ⟨rfl, Nat.le_refl _, h.cells⟩
set_option maxRecDepth 100000 in
set_option maxHeartbeats 4000000 in
theorem sample_spec (hV : Sub V W) : Ret Tryz.prog 11 [].toArray W fun v w' => ∃ (V' : World) (s : Sl), Sub V V' ∧ Rel W V [] V' w' ∧ v = catV s ∧ Ents V' s sample := by
  have H := Rel.start hV
  refine cal_of_vc tabOk Tryz.func11 rfl (by kernel_rfl) 11 rfl (by simp) [0] ?_
  ((repeat ((conv => whnf); first | refine an ?_ | refine H.ce ?_ | refine H.db ?_ | refine ea ?_ | (refine H.st ?_; (conv => whnf); clear H; intro w H) | refine condT fun _ => ?_ | refine condF fun _ => ?_ | refine condNT fun _ => ?_ | refine condNF fun _ => ?_ | refine H.lw ?_ | refine H.ll ?_)); (conv => whnf))
  ((first | refine Rel.nwD H ?_ | refine Rel.nw H ?_); clear H; intro w b0 H)
  ((repeat ((conv => whnf); first | refine an ?_ | ((first | refine H.nwD ?_ | refine H.nw ?_); clear H; intro w _ H) | refine H.ce ?_ | refine H.db ?_ | refine ea ?_ | (refine H.st ?_; (conv => whnf); clear H; intro w H) | refine condT fun _ => ?_ | refine condF fun _ => ?_ | refine condNT fun _ => ?_ | refine condNF fun _ => ?_ | refine H.lw ?_ | refine H.ll ?_)); (conv => whnf))
  refine (entry_spec H.data [97] 2 ⟨none, 0, 0⟩ []).use ?_
  rintro v w ⟨rfl, K⟩
  replace H := H.call K
  ((repeat ((conv => whnf); first | refine an ?_ | refine H.ce ?_ | refine H.db ?_ | refine ea ?_ | (refine H.st ?_; (conv => whnf); clear H; intro w H) | refine condT fun _ => ?_ | refine condF fun _ => ?_ | refine condNT fun _ => ?_ | refine condNF fun _ => ?_ | refine H.lw ?_ | refine H.ll ?_)); (conv => whnf))
  ((first | refine Rel.nwD H ?_ | refine Rel.nw H ?_); clear H; intro w b3 H)
  ((repeat ((conv => whnf); first | refine an ?_ | refine H.ce ?_ | refine H.db ?_ | refine ea ?_ | (refine H.st ?_; (conv => whnf); clear H; intro w H) | refine condT fun _ => ?_ | refine condF fun _ => ?_ | refine condNT fun _ => ?_ | refine condNF fun _ => ?_ | refine H.lw ?_ | refine H.ll ?_)); (conv => whnf))
  refine (entry_spec H.data [97] 5 ⟨some ⟨b3, 0, none⟩, 1, 1⟩ [⟨[97], 2⟩]).use ?_
  rintro v w ⟨rfl, K⟩
  replace H := H.call K
  ((repeat ((conv => whnf); first | refine an ?_ | refine H.ce ?_ | refine H.db ?_ | refine ea ?_ | (refine H.st ?_; (conv => whnf); clear H; intro w H) | refine condT fun _ => ?_ | refine condF fun _ => ?_ | refine condNT fun _ => ?_ | refine condNF fun _ => ?_ | refine H.lw ?_ | refine H.ll ?_)); (conv => whnf))
  ((first | refine Rel.nwD H ?_ | refine Rel.nw H ?_); clear H; intro w b7 H)
  ((repeat ((conv => whnf); first | refine an ?_ | refine H.ce ?_ | refine H.db ?_ | refine ea ?_ | (refine H.st ?_; (conv => whnf); clear H; intro w H) | refine condT fun _ => ?_ | refine condF fun _ => ?_ | refine condNT fun _ => ?_ | refine condNF fun _ => ?_ | refine H.lw ?_ | refine H.ll ?_)); (conv => whnf))
  refine (entry_spec H.data [98] 1 ⟨some ⟨b7, 0, none⟩, 2, 2⟩ [⟨[97], 5⟩, ⟨[99], 1⟩]).use ?_
  rintro v w ⟨rfl, K⟩
  replace H := H.call K
  ((repeat ((conv => whnf); first | refine an ?_ | refine H.ce ?_ | refine H.db ?_ | refine ea ?_ | (refine H.st ?_; (conv => whnf); clear H; intro w H) | refine condT fun _ => ?_ | refine condF fun _ => ?_ | refine condNT fun _ => ?_ | refine condNF fun _ => ?_ | refine H.lw ?_ | refine H.ll ?_)); (conv => whnf))
  ((first | refine Rel.nwD H ?_ | refine Rel.nw H ?_); clear H; intro w b9 H)
  ((repeat ((conv => whnf); first | refine an ?_ | ((first | refine H.nwD ?_ | refine H.nw ?_); clear H; intro w _ H) | refine H.ce ?_ | refine H.db ?_ | refine ea ?_ | (refine H.st ?_; (conv => whnf); clear H; intro w H) | refine condT fun _ => ?_ | refine condF fun _ => ?_ | refine condNT fun _ => ?_ | refine condNF fun _ => ?_ | refine H.lw ?_ | refine H.ll ?_)); (conv => whnf))
  obtain ⟨V1, hV1, H, h9⟩ := Rel.freezeBlk H
  obtain ⟨V2, hV2, H, h7⟩ := Rel.freezeBlk H
  obtain ⟨V3, hV3, H, h3⟩ := Rel.freezeBlk H
  refine ⟨V3, ⟨some ⟨b9, 0, none⟩, 3, 3⟩, (hV1.trans hV2).trans hV3, H.sx, rfl, ⟨[(smp [97] 2 [], ⟨⟨none, 0, 0⟩, ⟨none, 0, 0⟩, ⟨none, 0, 0⟩⟩), (smp [97] 5 [⟨[97], 2⟩], ⟨⟨some ⟨b3, 0, none⟩, 1, 1⟩, ⟨none, 0, 0⟩, ⟨none, 0, 0⟩⟩), (smp [98] 1 [⟨[97], 5⟩, ⟨[99], 1⟩], ⟨⟨some ⟨b7, 0, none⟩, 2, 2⟩, ⟨none, 0, 0⟩, ⟨none, 0, 0⟩⟩)], rfl, ?_, ?_⟩⟩
  · exact blk_slf ((hV2.trans hV3).cel _ _ _ _ h9) rfl rfl
  · intro p hp
    simp only [List.mem_cons, List.not_mem_nil, or_false] at hp
    rcases hp with rfl | rfl | rfl
    · exact ⟨SlF.nil _ _, SlF.nil _ _, SlF.nil _ _⟩
    · exact ⟨blk_slf h3 rfl rfl, SlF.nil _ _, SlF.nil _ _⟩
    · exact ⟨blk_slf (hV3.cel _ _ _ _ h7) rfl rfl, SlF.nil _ _, SlF.nil _ _⟩
theorem smp_fault : catFault sample = (0, 0) := by kernel_rfl
theorem smp_find : findRes sample [97] 0 = (1, 0, 0) := by kernel_rfl
theorem smp_find3 : findRes sample [97] 3 = (0, 12, -2) := by kernel_rfl
theorem smp_rel : relCode sample 2 = (0, 0) := by kernel_rfl
theorem smp_src : picks (comes sample (2 : Int).toNat) sample.length = [0, 1] := by kernel_rfl
theorem smp_out : outL sample sample.length = [⟨[99], 1⟩] := by kernel_rfl
theorem smp_vis : visCode sample [] 1 = (0, 0) := by kernel_rfl
theorem smp_seen : picks (seen sample [] 1) sample.length = [0, 1, 2] := by kernel_rfl
set_option maxRecDepth 100000 in
set_option maxHeartbeats 8000000 in
theorem example_spec (hV : Sub V W) : Ret Tryz.prog 4 [].toArray W fun v w' => v = .bool true ∧ ∃ V', Sub V V' ∧ Rel W V [] V' w' := by
  have H := Rel.start hV
  have hn : sample.length = 3 := rfl
  refine cal_of_vc tabOk Tryz.func4 rfl (by kernel_rfl) 86 rfl (by simp) [0, 1, 2, 3, 5, 6, 7, 8, 9, 10, 11, 65] ?_
  ((repeat ((conv => whnf); first | refine an ?_ | ((first | refine H.nwD ?_ | refine H.nw ?_); clear H; intro w _ H) | refine H.ce ?_ | refine H.db ?_ | refine ea ?_ | (refine H.st ?_; (conv => whnf); clear H; intro w H) | refine condT fun _ => ?_ | refine condF fun _ => ?_ | refine condNT fun _ => ?_ | refine condNF fun _ => ?_ | refine H.lw ?_ | refine H.ll ?_)); (conv => whnf))
  refine (sample_spec H.data).use ?_
  rintro v w ⟨V1, s, hV1, K, rfl, hs⟩
  replace H := H.call K
  ((repeat ((conv => whnf); first | refine an ?_ | ((first | refine H.nwD ?_ | refine H.nw ?_); clear H; intro w _ H) | refine H.ce ?_ | refine H.db ?_ | refine ea ?_ | (refine H.st ?_; (conv => whnf); clear H; intro w H) | refine condT fun _ => ?_ | refine condF fun _ => ?_ | refine condNT fun _ => ?_ | refine condNF fun _ => ?_ | refine H.lw ?_ | refine H.ll ?_)); (conv => whnf))
  refine (find_spec H.data hs (by omega) [97] 0).use ?_
  rintro v w ⟨rfl, V2, hV2, K⟩
  replace H := H.call K
  rw [smp_find]
  ((repeat ((conv => whnf); first | refine an ?_ | ((first | refine H.nwD ?_ | refine H.nw ?_); clear H; intro w _ H) | refine H.ce ?_ | refine H.db ?_ | refine ea ?_ | (refine H.st ?_; (conv => whnf); clear H; intro w H) | refine condT fun _ => ?_ | refine condF fun _ => ?_ | refine condNT fun _ => ?_ | refine condNF fun _ => ?_ | refine H.lw ?_ | refine H.ll ?_)); (conv => whnf))
  refine (find_spec H.data (hs.up hV2) (by omega) [97] 3).use ?_
  rintro v w ⟨rfl, V3, hV3, K⟩
  replace H := H.call K
  rw [smp_find3]
  ((repeat ((conv => whnf); first | refine an ?_ | ((first | refine H.nwD ?_ | refine H.nw ?_); clear H; intro w _ H) | refine H.ce ?_ | refine H.db ?_ | refine ea ?_ | (refine H.st ?_; (conv => whnf); clear H; intro w H) | refine condT fun _ => ?_ | refine condF fun _ => ?_ | refine condNT fun _ => ?_ | refine condNF fun _ => ?_ | refine H.lw ?_ | refine H.ll ?_)); (conv => whnf))
  refine (sources_spec H.data (hs.up (hV2.trans hV3)) (by omega) 2 (by constructor <;> omega)).use ?_
  rintro v w ⟨V4, hV4, K, hv⟩
  replace H := H.call K
  rw [smp_rel, smp_src] at hv
  rcases hv with ⟨hc, _⟩ | ⟨_, t1, rfl, ht1⟩
  · exact absurd rfl hc
  ((repeat ((conv => whnf); first | refine an ?_ | ((first | refine H.nwD ?_ | refine H.nw ?_); clear H; intro w _ H) | refine H.ce ?_ | refine H.db ?_ | refine ea ?_ | (refine H.st ?_; (conv => whnf); clear H; intro w H) | refine condT fun _ => ?_ | refine condF fun _ => ?_ | refine condNT fun _ => ?_ | refine condNF fun _ => ?_ | refine H.lw ?_ | refine H.ll ?_)); (conv => whnf))
  refine (outside_spec H.data (hs.up ((hV2.trans hV3).trans hV4)) (by omega)).use ?_
  rintro v w ⟨V5, hV5, K, hv⟩
  replace H := H.call K
  rw [smp_fault, smp_out] at hv
  rcases hv with ⟨hc, _⟩ | ⟨_, t2, rfl, ht2⟩
  · exact absurd rfl hc
  ((repeat ((conv => whnf); first | refine an ?_ | ((first | refine H.nwD ?_ | refine H.nw ?_); clear H; intro w _ H) | refine H.ce ?_ | refine H.db ?_ | refine ea ?_ | (refine H.st ?_; (conv => whnf); clear H; intro w H) | refine condT fun _ => ?_ | refine condF fun _ => ?_ | refine condNT fun _ => ?_ | refine condNF fun _ => ?_ | refine H.lw ?_ | refine H.ll ?_)); (conv => whnf))
  refine (visible_spec H.data (hs.up (((hV2.trans hV3).trans hV4).trans hV5)) (by omega) (g := ⟨none, 0, 0⟩) (SlF.nil strC V5) (by simp) 1).use ?_
  rintro v w ⟨V6, hV6, K, hv⟩
  replace H := H.call K
  rw [smp_vis, smp_seen] at hv
  rcases hv with ⟨hc, _⟩ | ⟨_, t3, rfl, ht3⟩
  · exact absurd rfl hc
  ((repeat ((conv => whnf); first | refine an ?_ | ((first | refine H.nwD ?_ | refine H.nw ?_); clear H; intro w _ H) | refine H.ce ?_ | refine H.db ?_ | refine ea ?_ | (refine H.st ?_; (conv => whnf); clear H; intro w H) | refine condT fun _ => ?_ | refine condF fun _ => ?_ | refine condNT fun _ => ?_ | refine condNF fun _ => ?_ | refine H.lw ?_ | refine H.ll ?_)); (conv => whnf))
  ((first | refine draw_vc (id := 7) tabOk mixed [24] [0, 1, 2, 3, 4, 5, 6, 7, 8, 9, 10, 11, 12, 13, 14, 15, 16, 17, 18, 19, 20, 21, 22, 23, 24, 25, 26] (by kernel_rfl) ?_); intro w hdw; replace H := Rel.ext H hdw.ext)
  ((repeat ((conv => whnf); first | refine an ?_ | ((first | refine H.nwD ?_ | refine H.nw ?_); clear H; intro w _ H) | refine H.ce ?_ | refine H.db ?_ | refine ea ?_ | (refine H.st ?_; (conv => whnf); clear H; intro w H) | refine condT fun _ => ?_ | refine condF fun _ => ?_ | refine condNT fun _ => ?_ | refine condNF fun _ => ?_ | refine H.lw ?_ | refine H.ll ?_)); (conv => whnf))
  refine (at_ref H.data 12 (-2)).use ?_
  rintro v w ⟨rfl, K⟩
  replace H := H.call K
  (conv => whnf)
  try refine And.intro K.base ?_
  ((repeat ((conv => whnf); first | refine an ?_ | refine H.ce ?_ | refine H.db ?_ | refine ea ?_ | (refine H.st ?_; (conv => whnf); clear H; intro w H) | refine condT fun _ => ?_ | refine condF fun _ => ?_ | refine condNT fun _ => ?_ | refine condNF fun _ => ?_ | refine H.lw ?_ | refine H.ll ?_)); (conv => whnf))
  ((first | refine Rel.nwD H ?_ | refine Rel.nw H ?_); clear H; intro w b67 H)
  ((repeat ((conv => whnf); first | refine an ?_ | ((first | refine H.nwD ?_ | refine H.nw ?_); clear H; intro w _ H) | refine H.ce ?_ | refine H.db ?_ | refine ea ?_ | (refine H.st ?_; (conv => whnf); clear H; intro w H) | refine condT fun _ => ?_ | refine condF fun _ => ?_ | refine condNT fun _ => ?_ | refine condNF fun _ => ?_ | refine H.lw ?_ | refine H.ll ?_)); (conv => whnf))
  obtain ⟨V7, hV7, H, hb⟩ := Rel.freezeBlk H
  refine (ints_ref H.data (ht1.up ((hV5.trans hV6).trans hV7)) (blk_slf (f := intC) (l := [0, 1]) hb rfl rfl) (by simp)).use ?_
  rintro v w ⟨rfl, K⟩
  replace H := H.call K
  have ht2l := ht2.len
  simp only [List.length_cons, List.length_nil] at ht2l
  obtain ⟨hp, hc, hc'⟩ := Refs.get (ht2.up (hV6.trans hV7)) (i := 0) (by simp)
  simp only [List.getElem_cons_zero, Nat.zero_mul, Nat.add_zero] at hc hc'
  ((repeat ((conv => whnf); first | refine an ?_ | refine H.ce ?_ | refine H.db ?_ | refine ea ?_ | (refine H.st ?_; (conv => whnf); clear H; intro w H) | refine condT fun _ => ?_ | refine condF fun _ => ?_ | refine condNT fun _ => ?_ | refine condNF fun _ => ?_ | refine H.lw ?_ | refine H.ll ?_)); (conv => whnf))
  ((first | refine Rel.nwD H ?_ | refine Rel.nw H ?_); clear H; intro w b83 H)
  ((repeat ((conv => whnf); first | refine an ?_ | ((first | refine H.nwD ?_ | refine H.nw ?_); clear H; intro w _ H) | refine H.ce ?_ | refine H.db ?_ | refine ea ?_ | (refine H.st ?_; (conv => whnf); clear H; intro w H) | refine condT fun _ => ?_ | refine condF fun _ => ?_ | refine condNT fun _ => ?_ | refine condNF fun _ => ?_ | refine H.lw ?_ | refine H.ll ?_)); (conv => whnf))
  obtain ⟨V8, hV8, H, hb8⟩ := Rel.freezeBlk H
  refine (ints_ref H.data (ht3.up (hV7.trans hV8)) (blk_slf (f := intC) (l := [0, 1, 2]) hb8 rfl rfl) (by simp)).use ?_
  rintro v w ⟨rfl, K⟩
  replace H := H.call K
  (conv => whnf)
  exact ⟨by simp, V8, ((((((hV1.trans hV2).trans hV3).trans hV4).trans hV5).trans hV6).trans hV7).trans hV8, H.sx⟩
end
end Go.Proofs.YtlhgmigoncmcaaaGreat
