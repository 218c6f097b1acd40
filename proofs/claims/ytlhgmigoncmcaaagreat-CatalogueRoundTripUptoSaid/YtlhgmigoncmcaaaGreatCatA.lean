/-
  Checks of one entry: groups, sources, manifests, names.
-/
import Derived.Test.YtlhgmigoncmcaaaGreatCatD
namespace Go.Proofs.YtlhgmigoncmcaaaGreat
open Go Go.RowKit

abbrev faultV (c i : Int) : Value := .agg #[.int .i64 c, .int .i64 i]
section
variable {V W : World}
theorem fault_cat (hV : Sub V W) (c i : Int) : Ret Tryz.prog 23 [iv c, iv i].toArray W fun v w' => v = faultV c i ∧ Rel W V [] V w' := by
  have H := Rel.start hV
  refine cal_of_vc tabOk Tryz.func23 rfl (by kernel_rfl) 8 rfl (by simp) [0, 1, 4] ?_
  ((repeat ((conv => whnf); first | refine an ?_ | ((first | refine H.nwD ?_ | refine H.nw ?_); clear H; intro w _ H) | refine H.ce ?_ | refine H.db ?_ | refine ea ?_ | (refine H.st ?_; (conv => whnf); clear H; intro w H) | refine condT fun _ => ?_ | refine condF fun _ => ?_ | refine condNT fun _ => ?_ | refine condNF fun _ => ?_ | refine H.lw ?_ | refine H.ll ?_)); (conv => whnf))
  exact H.sx
theorem fault_store (hV : Sub V W) (c i : Int) : Ret Tryz.prog 98 [iv c, iv i].toArray W fun v w' => v = faultV c i ∧ Rel W V [] V w' := by
  have H := Rel.start hV
  refine cal_of_vc tabOk Tryz.func98 rfl (by kernel_rfl) 8 rfl (by simp) [0, 1, 4] ?_
  ((repeat ((conv => whnf); first | refine an ?_ | ((first | refine H.nwD ?_ | refine H.nw ?_); clear H; intro w _ H) | refine H.ce ?_ | refine H.db ?_ | refine ea ?_ | (refine H.st ?_; (conv => whnf); clear H; intro w H) | refine condT fun _ => ?_ | refine condF fun _ => ?_ | refine condNT fun _ => ?_ | refine condNF fun _ => ?_ | refine H.lw ?_ | refine H.ll ?_)); (conv => whnf))
  exact H.sx
theorem at_ref (hV : Sub V W) (c i : Int) : Ret Tryz.prog 16 [iv c, iv i].toArray W fun v w' => v = faultV c i ∧ Rel W V [] V w' := by
  have H := Rel.start hV
  refine cal_of_vc tabOk Tryz.func16 rfl (by kernel_rfl) 8 rfl (by simp) [0, 1, 4] ?_
  ((repeat ((conv => whnf); first | refine an ?_ | ((first | refine H.nwD ?_ | refine H.nw ?_); clear H; intro w _ H) | refine H.ce ?_ | refine H.db ?_ | refine ea ?_ | (refine H.st ?_; (conv => whnf); clear H; intro w H) | refine condT fun _ => ?_ | refine condF fun _ => ?_ | refine condNT fun _ => ?_ | refine condNF fun _ => ?_ | refine H.lw ?_ | refine H.ll ?_)); (conv => whnf))
  exact H.sx
theorem in_cat (n a b : Int) (w : World) : Ret Tryz.prog 31 [iv n, iv a, iv b].toArray w fun v w' => v = .bool (decide (a ≤ n ∧ n ≤ b)) ∧ w = w' := by
  refine cal_of_vc tabOk Tryz.func31 rfl (by kernel_rfl) 15 rfl (by simp) [0, 1, 2, 6] ?_
  (conv => whnf)
  refine condG_dec (fun h => ?_) (fun h => ?_)
  · (conv => whnf)
    exact ⟨by simp [h], rfl⟩
  · (conv => whnf)
    exact ⟨by simp [h], rfl⟩
theorem Refs.get {s : Sl} {l : List RefD} (h : Refs V s l) {i : Nat} (hi : i < l.length) : Plain s.a ∧ V.cell? ⟨ablk s.a, aoff s.a + i * 2, none⟩ = some (str l[i].name) ∧ V.cell? ⟨ablk s.a, aoff s.a + i * 2 + 1, none⟩ = some (iv l[i].ver) := by
  obtain ⟨h1, h2⟩ := SlF.get (n := 2) h (fun x => rfl) (by omega) hi
  exact ⟨h1, h2 0 _ rfl, h2 1 _ rfl⟩

/-! ### groups -/
def strLe (x y : List UInt8) : Bool := Op.bytesLess x y || decide (x = y)
def grpAt (l : List (List UInt8)) (i : Nat) : Int := if nameOk (l[i]?.getD []) = false then 7 else if 0 < i ∧ strLe (l[i]?.getD []) (l[i - 1]?.getD []) = true then 11 else 0
theorem checkGroups_spec (hV : Sub V W) {s : Sl} {l : List (List UInt8)} (hs : Strs V s l) (hl : l.length ≤ 1099511627776) : Ret Tryz.prog 76 [s.v].toArray W fun v w' => v = iv (firstCode (grpAt l) l.length) ∧ Rel W V [] V w' := by
  have H := Rel.start hV
  have hlen := hs.len
  refine cal_of_vc tabOk Tryz.func76 rfl (by kernel_rfl) 29 rfl (by simp) [0, 2, 3, 4, 5, 6, 7, 8, 12, 16] ?_
  ((repeat ((conv => whnf); first | refine an ?_ | ((first | refine H.nwD ?_ | refine H.nw ?_); clear H; intro w _ H) | refine H.ce ?_ | refine H.db ?_ | refine ea ?_ | (refine H.st ?_; (conv => whnf); clear H; intro w H) | refine condT fun _ => ?_ | refine condF fun _ => ?_ | refine condNT fun _ => ?_ | refine condNF fun _ => ?_ | refine H.lw ?_ | refine H.ll ?_)); (conv => whnf))
  refine loop_inv (S := Nat) tabOk [0, 5, 6] (fun k => [(7, iv k)]) (fun k w' => k ≤ l.length ∧ firstCode (grpAt l) k = 0 ∧ Rel W V [] V w') (fun k _ => l.length - k) 0 ?_
  (conv => whnf)
  refine ⟨(by repeat (first | exact trivial | refine ⟨rfl, ?_⟩)), ⟨by omega, rfl, H⟩, ?_⟩
  clear H
  rintro k w ⟨hk, hz, H⟩
  by_cases hlt : k < l.length
  · obtain ⟨hp, hc⟩ := hs.get1 (g := str) (fun _ => rfl) hlt
    have e0 : l[k]?.getD [] = l[k] := by simp [hlt]
    ((repeat ((conv => whnf); first | refine an ?_ | ((first | refine H.nwD ?_ | refine H.nw ?_); clear H; intro w _ H) | refine H.ce ?_ | refine H.db ?_ | refine ea ?_ | (refine H.st ?_; (conv => whnf); clear H; intro w H) | refine condT fun _ => ?_ | refine condF fun _ => ?_ | refine condNT fun _ => ?_ | refine condNF fun _ => ?_ | refine H.lw ?_ | refine H.ll ?_)); (conv => whnf))
    refine (name_spec H.data l[k]).use ?_
    rintro v w ⟨rfl, K⟩
    replace H := H.call K
    (conv => whnf)
    refine condG_split (fun h1 => ?_) (fun h1 => ?_)
    · have hc0 : grpAt l k = 7 := by simp only [grpAt, e0]; simp at h1; simp [h1]
      (conv => whnf)
      refine ⟨?_, H⟩
      rw [firstCode_hit hz (by rw [hc0]; decide) hlt, hc0]
    simp at h1
    by_cases hk0 : 0 < k
    · have hlt' : k - 1 < l.length := by omega
      obtain ⟨_, hc'⟩ := hs.get1 (g := str) (fun _ => rfl) hlt'
      have e1 : l[k - 1]?.getD [] = l[k - 1] := by simp [hlt']
      replace hc' : V.cell? ⟨ablk s.a, aoff s.a + ((k : Int) - 1).toNat, none⟩ = some (str l[k - 1]) := by rw [show ((k : Int) - 1).toNat = k - 1 by omega]; exact hc'
      ((repeat ((conv => whnf); first | refine an ?_ | ((first | refine H.nwD ?_ | refine H.nw ?_); clear H; intro w _ H) | refine H.ce ?_ | refine H.db ?_ | refine ea ?_ | (refine H.st ?_; (conv => whnf); clear H; intro w H) | refine condT fun _ => ?_ | refine condF fun _ => ?_ | refine condNT fun _ => ?_ | refine condNF fun _ => ?_ | refine H.lw ?_ | refine H.ll ?_)); (conv => whnf))
      have e2 : grpAt l k = if strLe l[k] l[k - 1] = true then 11 else 0 := by simp only [grpAt, e0, e1, h1, hk0, true_and]; simp
      refine condG_split (fun h2 => ?_) (fun h2 => ?_)
      · (conv => whnf)
        refine ⟨?_, H⟩
        have hc0 : grpAt l k = 11 := by rw [e2, if_pos]; simpa [strLe] using h2
        rw [firstCode_hit hz (by rw [hc0]; decide) hlt, hc0]
      · ((repeat ((conv => whnf); first | refine an ?_ | ((first | refine H.nwD ?_ | refine H.nw ?_); clear H; intro w _ H) | refine H.ce ?_ | refine H.db ?_ | refine ea ?_ | (refine H.st ?_; (conv => whnf); clear H; intro w H) | refine condT fun _ => ?_ | refine condF fun _ => ?_ | refine condNT fun _ => ?_ | refine condNF fun _ => ?_ | refine H.lw ?_ | refine H.ll ?_)); (conv => whnf))
        refine ⟨(by repeat (first | exact trivial | refine ⟨rfl, ?_⟩)), k + 1, (by repeat (first | exact trivial | refine ⟨rfl, ?_⟩)), ⟨by omega, ?_, H⟩, by omega⟩
        refine firstCode_zero hz ?_
        rw [e2, if_neg]
        simpa [strLe] using h2
    · ((repeat ((conv => whnf); first | refine an ?_ | ((first | refine H.nwD ?_ | refine H.nw ?_); clear H; intro w _ H) | refine H.ce ?_ | refine H.db ?_ | refine ea ?_ | (refine H.st ?_; (conv => whnf); clear H; intro w H) | refine condT fun _ => ?_ | refine condF fun _ => ?_ | refine condNT fun _ => ?_ | refine condNF fun _ => ?_ | refine H.lw ?_ | refine H.ll ?_)); (conv => whnf))
      refine ⟨(by repeat (first | exact trivial | refine ⟨rfl, ?_⟩)), k + 1, (by repeat (first | exact trivial | refine ⟨rfl, ?_⟩)), ⟨by omega, ?_, H⟩, by omega⟩
      refine firstCode_zero hz ?_
      simp only [grpAt, e0, h1]
      simp [hk0]
  · ((repeat ((conv => whnf); first | refine an ?_ | ((first | refine H.nwD ?_ | refine H.nw ?_); clear H; intro w _ H) | refine H.ce ?_ | refine H.db ?_ | refine ea ?_ | (refine H.st ?_; (conv => whnf); clear H; intro w H) | refine condT fun _ => ?_ | refine condF fun _ => ?_ | refine condNT fun _ => ?_ | refine condNF fun _ => ?_ | refine H.lw ?_ | refine H.ll ?_)); (conv => whnf))
    refine ⟨?_, H⟩
    rw [show l.length = k by omega, hz]
theorem groupsCode_ref (hV : Sub V W) {s : Sl} {l : List (List UInt8)} (hs : Strs V s l) (hl : l.length ≤ 1099511627776) : Ret Tryz.prog 50 [s.v].toArray W fun v w' => v = iv (firstCode (grpAt l) l.length) ∧ Rel W V [] V w' := by
  have H := Rel.start hV
  have hlen := hs.len
  refine cal_of_vc tabOk Tryz.func50 rfl (by kernel_rfl) 30 rfl (by simp) [0, 2, 3, 7, 15, 29] ?_
  ((repeat ((conv => whnf); first | refine an ?_ | ((first | refine H.nwD ?_ | refine H.nw ?_); clear H; intro w _ H) | refine H.ce ?_ | refine H.db ?_ | refine ea ?_ | (refine H.st ?_; (conv => whnf); clear H; intro w H) | refine condT fun _ => ?_ | refine condF fun _ => ?_ | refine condNT fun _ => ?_ | refine condNF fun _ => ?_ | refine H.lw ?_ | refine H.ll ?_)); (conv => whnf))
  refine loop_inv (S := Nat) tabOk [0] (fun k => [(3, iv k)]) (fun k w' => k ≤ l.length ∧ firstCode (grpAt l) k = 0 ∧ Rel W V [] V w') (fun k _ => l.length - k) 0 ?_
  (conv => whnf)
  refine ⟨(by repeat (first | exact trivial | refine ⟨rfl, ?_⟩)), ⟨by omega, rfl, H⟩, ?_⟩
  clear H
  rintro k w ⟨hk, hz, H⟩
  by_cases hlt : k < l.length
  · obtain ⟨hp, hc⟩ := hs.get1 (g := str) (fun _ => rfl) hlt
    have e0 : l[k]?.getD [] = l[k] := by simp [hlt]
    ((repeat ((conv => whnf); first | refine an ?_ | ((first | refine H.nwD ?_ | refine H.nw ?_); clear H; intro w _ H) | refine H.ce ?_ | refine H.db ?_ | refine ea ?_ | (refine H.st ?_; (conv => whnf); clear H; intro w H) | refine condT fun _ => ?_ | refine condF fun _ => ?_ | refine condNT fun _ => ?_ | refine condNF fun _ => ?_ | refine H.lw ?_ | refine H.ll ?_)); (conv => whnf))
    refine (name_ref _ l[k]).use ?_
    rintro v w ⟨rfl, rfl⟩
    (conv => whnf)
    refine condG_split (fun h1 => ?_) (fun h1 => ?_)
    · have hc0 : grpAt l k = 7 := by simp only [grpAt, e0]; simp at h1; simp [h1]
      (conv => whnf)
      refine ⟨?_, H⟩
      rw [firstCode_hit hz (by rw [hc0]; decide) hlt, hc0]
    simp at h1
    (conv => whnf)
    ((first | refine draw_vc (id := 6) tabOk mixed [] [0, 1, 2, 3, 4, 5, 6, 7, 8, 9, 10, 11, 12, 13] (by kernel_rfl) ?_); intro w hdw; replace H := Rel.ext H hdw.ext)
    by_cases hk0 : 0 < k
    · have hlt' : k - 1 < l.length := by omega
      obtain ⟨_, hc'⟩ := hs.get1 (g := str) (fun _ => rfl) hlt'
      have e1 : l[k - 1]?.getD [] = l[k - 1] := by simp [hlt']
      replace hc' : V.cell? ⟨ablk s.a, aoff s.a + ((k : Int) - 1).toNat, none⟩ = some (str l[k - 1]) := by rw [show ((k : Int) - 1).toNat = k - 1 by omega]; exact hc'
      ((repeat ((conv => whnf); first | refine an ?_ | ((first | refine H.nwD ?_ | refine H.nw ?_); clear H; intro w _ H) | refine H.ce ?_ | refine H.db ?_ | refine ea ?_ | (refine H.st ?_; (conv => whnf); clear H; intro w H) | refine condT fun _ => ?_ | refine condF fun _ => ?_ | refine condNT fun _ => ?_ | refine condNF fun _ => ?_ | refine H.lw ?_ | refine H.ll ?_)); (conv => whnf))
      have e2 : grpAt l k = if strLe l[k] l[k - 1] = true then 11 else 0 := by simp only [grpAt, e0, e1, h1, hk0, true_and]; simp
      refine condG_split (fun h2 => ?_) (fun h2 => ?_)
      · (conv => whnf)
        refine ⟨?_, H⟩
        have hc0 : grpAt l k = 11 := by rw [e2, if_pos]; simpa [strLe] using h2
        rw [firstCode_hit hz (by rw [hc0]; decide) hlt, hc0]
      · ((repeat ((conv => whnf); first | refine an ?_ | ((first | refine H.nwD ?_ | refine H.nw ?_); clear H; intro w _ H) | refine H.ce ?_ | refine H.db ?_ | refine ea ?_ | (refine H.st ?_; (conv => whnf); clear H; intro w H) | refine condT fun _ => ?_ | refine condF fun _ => ?_ | refine condNT fun _ => ?_ | refine condNF fun _ => ?_ | refine H.lw ?_ | refine H.ll ?_)); (conv => whnf))
        refine ⟨(by repeat (first | exact trivial | refine ⟨rfl, ?_⟩)), k + 1, (by repeat (first | exact trivial | refine ⟨rfl, ?_⟩)), ⟨by omega, ?_, H⟩, by omega⟩
        refine firstCode_zero hz ?_
        rw [e2, if_neg]
        simpa [strLe] using h2
    · ((repeat ((conv => whnf); first | refine an ?_ | ((first | refine H.nwD ?_ | refine H.nw ?_); clear H; intro w _ H) | refine H.ce ?_ | refine H.db ?_ | refine ea ?_ | (refine H.st ?_; (conv => whnf); clear H; intro w H) | refine condT fun _ => ?_ | refine condF fun _ => ?_ | refine condNT fun _ => ?_ | refine condNF fun _ => ?_ | refine H.lw ?_ | refine H.ll ?_)); (conv => whnf))
      refine ⟨(by repeat (first | exact trivial | refine ⟨rfl, ?_⟩)), k + 1, (by repeat (first | exact trivial | refine ⟨rfl, ?_⟩)), ⟨by omega, ?_, H⟩, by omega⟩
      refine firstCode_zero hz ?_
      simp only [grpAt, e0, h1]
      simp [hk0]
  · ((repeat ((conv => whnf); first | refine an ?_ | ((first | refine H.nwD ?_ | refine H.nw ?_); clear H; intro w _ H) | refine H.ce ?_ | refine H.db ?_ | refine ea ?_ | (refine H.st ?_; (conv => whnf); clear H; intro w H) | refine condT fun _ => ?_ | refine condF fun _ => ?_ | refine condNT fun _ => ?_ | refine condNF fun _ => ?_ | refine H.lw ?_ | refine H.ll ?_)); (conv => whnf))
    refine ⟨?_, H⟩
    rw [show l.length = k by omega, hz]
end
end Go.Proofs.YtlhgmigoncmcaaaGreat
