/-
  Sources, manifests, whole entries.
-/
import Derived.Test.YtlhgmigoncmcaaaGreatCatA
import Derived.Test.YtlhgmigoncmcaaaGreatStrB
import Derived.Test.YtlhgmigoncmcaaaGreatVcM
namespace Go.Proofs.YtlhgmigoncmcaaaGreat
open Go Go.RowKit

section
variable {V W : World}
/-! ### sources -/
theorem ref_ext {a b : RefD} : (a.name = b.name ∧ a.ver = b.ver) ↔ a = b := by
  cases a; cases b; simp
theorem index_refs (hV : Sub V W) {s : Sl} {l : List RefD} (hs : Refs V s l) (hl : l.length ≤ 1099511627776) (r : RefD) : Ret Tryz.prog 75 [s.v, .agg (refC r).toArray].toArray W fun v w' => (∃ i : Int, v = iv i ∧ (0 ≤ i ↔ r ∈ l)) ∧ Rel W V [] V w' := by
  have H := Rel.start hV
  have hlen := hs.len
  refine cal_of_vc tabOk Tryz.func75 rfl (by kernel_rfl) 19 rfl (by simp) [0, 1, 3, 4, 5, 7, 8, 9, 16] ?_
  ((repeat ((conv => whnf); first | refine an ?_ | refine H.ce ?_ | refine H.db ?_ | refine ea ?_ | (refine H.st ?_; (conv => whnf); clear H; intro w H) | refine condT fun _ => ?_ | refine condF fun _ => ?_ | refine condNT fun _ => ?_ | refine condNF fun _ => ?_ | refine H.lw ?_ | refine H.ll ?_)); (conv => whnf))
  ((first | refine Rel.nwD H ?_ | refine Rel.nw H ?_); clear H; intro w b H)
  ((repeat ((conv => whnf); first | refine an ?_ | ((first | refine H.nwD ?_ | refine H.nw ?_); clear H; intro w _ H) | refine H.ce ?_ | refine H.db ?_ | refine ea ?_ | (refine H.st ?_; (conv => whnf); clear H; intro w H) | refine condT fun _ => ?_ | refine condF fun _ => ?_ | refine condNT fun _ => ?_ | refine condNF fun _ => ?_ | refine H.lw ?_ | refine H.ll ?_)); (conv => whnf))
  refine loop_inv (S := Nat) tabOk [0, 1, 3, 7] (fun k => [(8, iv k)]) (fun k w' => k ≤ l.length ∧ r ∉ l.take k ∧ Rel W V [.blk b (refC r) 54] V w') (fun k _ => l.length - k) 0 ?_
  (conv => whnf)
  refine ⟨(by repeat (first | exact trivial | refine ⟨rfl, ?_⟩)), ⟨by omega, by simp, H⟩, ?_⟩
  clear H
  rintro k w ⟨hk, hz, H⟩
  by_cases hlt : k < l.length
  · obtain ⟨hp, hc, hc'⟩ := hs.get hlt
    ((repeat ((conv => whnf); first | refine an ?_ | ((first | refine H.nwD ?_ | refine H.nw ?_); clear H; intro w _ H) | refine H.ce ?_ | refine H.db ?_ | refine ea ?_ | (refine H.st ?_; (conv => whnf); clear H; intro w H) | refine condT fun _ => ?_ | refine condF fun _ => ?_ | refine condNT fun _ => ?_ | refine condNF fun _ => ?_ | refine H.lw ?_ | refine H.ll ?_)); (conv => whnf))
    ((first | refine draw_vc (id := 4) tabOk mixed [] [0, 1, 2, 3, 4, 5] (by kernel_rfl) ?_); intro w hdw; replace H := Rel.ext H hdw.ext)
    ((repeat ((conv => whnf); first | refine an ?_ | ((first | refine H.nwD ?_ | refine H.nw ?_); clear H; intro w _ H) | refine H.ce ?_ | refine H.db ?_ | refine ea ?_ | (refine H.st ?_; (conv => whnf); clear H; intro w H) | refine condT fun _ => ?_ | refine condF fun _ => ?_ | refine condNT fun _ => ?_ | refine condNF fun _ => ?_ | refine H.lw ?_ | refine H.ll ?_)); (conv => whnf))
    refine condG_dec (fun h => ?_) (fun h => ?_)
    · ((repeat ((conv => whnf); first | refine an ?_ | ((first | refine H.nwD ?_ | refine H.nw ?_); clear H; intro w _ H) | refine H.ce ?_ | refine H.db ?_ | refine ea ?_ | (refine H.st ?_; (conv => whnf); clear H; intro w H) | refine condT fun _ => ?_ | refine condF fun _ => ?_ | refine condNT fun _ => ?_ | refine condNF fun _ => ?_ | refine H.lw ?_ | refine H.ll ?_)); (conv => whnf))
      refine ⟨⟨k, rfl, fun _ => ?_, fun _ => by omega⟩, H.sx⟩
      rw [ref_ext] at h
      rw [h]
      exact List.getElem_mem hlt
    · ((repeat ((conv => whnf); first | refine an ?_ | ((first | refine H.nwD ?_ | refine H.nw ?_); clear H; intro w _ H) | refine H.ce ?_ | refine H.db ?_ | refine ea ?_ | (refine H.st ?_; (conv => whnf); clear H; intro w H) | refine condT fun _ => ?_ | refine condF fun _ => ?_ | refine condNT fun _ => ?_ | refine condNF fun _ => ?_ | refine H.lw ?_ | refine H.ll ?_)); (conv => whnf))
      exact ⟨(by repeat (first | exact trivial | refine ⟨rfl, ?_⟩)), k + 1, (by repeat (first | exact trivial | refine ⟨rfl, ?_⟩)), ⟨by omega, take_mem hlt hz (fun e => h (ref_ext.2 e)), H⟩, by omega⟩
  · ((repeat ((conv => whnf); first | refine an ?_ | ((first | refine H.nwD ?_ | refine H.nw ?_); clear H; intro w _ H) | refine H.ce ?_ | refine H.db ?_ | refine ea ?_ | (refine H.st ?_; (conv => whnf); clear H; intro w H) | refine condT fun _ => ?_ | refine condF fun _ => ?_ | refine condNT fun _ => ?_ | refine condNF fun _ => ?_ | refine H.lw ?_ | refine H.ll ?_)); (conv => whnf))
    refine ⟨⟨-1, rfl, fun h => by omega, fun h => ?_⟩, H.sx⟩
    rw [List.take_of_length_le (by omega)] at hz
    exact absurd h hz
theorem contains_refs (hV : Sub V W) {s : Sl} {l : List RefD} (hs : Refs V s l) (hl : l.length ≤ 1099511627776) (r : RefD) : Ret Tryz.prog 36 [s.v, .agg (refC r).toArray].toArray W fun v w' => v = .bool (decide (r ∈ l)) ∧ Rel W V [] V w' := by
  have H := Rel.start hV
  refine cal_of_vc tabOk Tryz.func36 rfl (by kernel_rfl) 9 rfl (by simp) [0, 1, 3, 4] ?_
  ((repeat ((conv => whnf); first | refine an ?_ | ((first | refine H.nwD ?_ | refine H.nw ?_); clear H; intro w _ H) | refine H.ce ?_ | refine H.db ?_ | refine ea ?_ | (refine H.st ?_; (conv => whnf); clear H; intro w H) | refine condT fun _ => ?_ | refine condF fun _ => ?_ | refine condNT fun _ => ?_ | refine condNF fun _ => ?_ | refine H.lw ?_ | refine H.ll ?_)); (conv => whnf))
  refine (index_refs H.data hs hl r).use ?_
  rintro v w ⟨⟨i, rfl, hi⟩, K⟩
  replace H := H.call K
  ((repeat ((conv => whnf); first | refine an ?_ | ((first | refine H.nwD ?_ | refine H.nw ?_); clear H; intro w _ H) | refine H.ce ?_ | refine H.db ?_ | refine ea ?_ | (refine H.st ?_; (conv => whnf); clear H; intro w H) | refine condT fun _ => ?_ | refine condF fun _ => ?_ | refine condNT fun _ => ?_ | refine condNF fun _ => ?_ | refine H.lw ?_ | refine H.ll ?_)); (conv => whnf))
  exact ⟨by simp only [hi], H.sx⟩
def srcAt (l : List RefD) (i : Nat) : Int :=
  if nameOk (l[i]?.getD default).name = false then 7 else if ¬ (1 ≤ (l[i]?.getD default).ver ∧ (l[i]?.getD default).ver ≤ 9999) then 4 else if (l[i]?.getD default) ∈ l.take i then 8 else 0
theorem checkSources_spec (hV : Sub V W) {s : Sl} {l : List RefD} (hs : Refs V s l) (hl : l.length ≤ 1099511627776) : Ret Tryz.prog 80 [s.v].toArray W fun v w' => v = iv (firstCode (srcAt l) l.length) ∧ Rel W V [] V w' := by
  have H := Rel.start hV
  have hlen := hs.len
  have hcap := hs.cap
  refine cal_of_vc tabOk Tryz.func80 rfl (by kernel_rfl) 29 rfl (by simp) [0, 2, 3, 4, 5, 6, 7, 8, 12, 17, 22] ?_
  ((repeat ((conv => whnf); first | refine an ?_ | ((first | refine H.nwD ?_ | refine H.nw ?_); clear H; intro w _ H) | refine H.ce ?_ | refine H.db ?_ | refine ea ?_ | (refine H.st ?_; (conv => whnf); clear H; intro w H) | refine condT fun _ => ?_ | refine condF fun _ => ?_ | refine condNT fun _ => ?_ | refine condNF fun _ => ?_ | refine H.lw ?_ | refine H.ll ?_)); (conv => whnf))
  refine loop_inv (S := Nat) tabOk [0, 5, 6] (fun k => [(7, iv k)]) (fun k w' => k ≤ l.length ∧ firstCode (srcAt l) k = 0 ∧ Rel W V [] V w') (fun k _ => l.length - k) 0 ?_
  (conv => whnf)
  refine ⟨(by repeat (first | exact trivial | refine ⟨rfl, ?_⟩)), ⟨by omega, rfl, H⟩, ?_⟩
  clear H
  rintro k w ⟨hk, hz, H⟩
  by_cases hlt : k < l.length
  · obtain ⟨hp, hc, hc'⟩ := hs.get hlt
    have e0 : l[k]?.getD default = l[k] := by simp [hlt]
    have E : srcAt l k = if nameOk l[k].name = false then 7 else if ¬ (1 ≤ l[k].ver ∧ l[k].ver ≤ 9999) then 4 else if l[k] ∈ l.take k then 8 else 0 := by simp only [srcAt, e0]
    ((repeat ((conv => whnf); first | refine an ?_ | ((first | refine H.nwD ?_ | refine H.nw ?_); clear H; intro w _ H) | refine H.ce ?_ | refine H.db ?_ | refine ea ?_ | (refine H.st ?_; (conv => whnf); clear H; intro w H) | refine condT fun _ => ?_ | refine condF fun _ => ?_ | refine condNT fun _ => ?_ | refine condNF fun _ => ?_ | refine H.lw ?_ | refine H.ll ?_)); (conv => whnf))
    refine (name_spec H.data l[k].name).use ?_
    rintro v w ⟨rfl, K⟩
    replace H := H.call K
    (conv => whnf)
    refine condG_split (fun h1 => ?_) (fun h1 => ?_)
    · rw [if_pos (by simpa using h1)] at E
      ((repeat ((conv => whnf); first | refine an ?_ | ((first | refine H.nwD ?_ | refine H.nw ?_); clear H; intro w _ H) | refine H.ce ?_ | refine H.db ?_ | refine ea ?_ | (refine H.st ?_; (conv => whnf); clear H; intro w H) | refine condT fun _ => ?_ | refine condF fun _ => ?_ | refine condNT fun _ => ?_ | refine condNF fun _ => ?_ | refine H.lw ?_ | refine H.ll ?_)); (conv => whnf))
      refine ⟨?_, H.sx⟩
      rw [firstCode_hit hz (by rw [E]; decide) hlt, E]
    rw [if_neg (by simpa using h1)] at E
    ((repeat ((conv => whnf); first | refine an ?_ | ((first | refine H.nwD ?_ | refine H.nw ?_); clear H; intro w _ H) | refine H.ce ?_ | refine H.db ?_ | refine ea ?_ | (refine H.st ?_; (conv => whnf); clear H; intro w H) | refine condT fun _ => ?_ | refine condF fun _ => ?_ | refine condNT fun _ => ?_ | refine condNF fun _ => ?_ | refine H.lw ?_ | refine H.ll ?_)); (conv => whnf))
    refine (in_cat _ _ _ _).use ?_
    rintro v w ⟨rfl, rfl⟩
    (conv => whnf)
    refine condG_ndec (fun h2 => ?_) (fun h2 => ?_)
    · rw [if_pos h2] at E
      ((repeat ((conv => whnf); first | refine an ?_ | ((first | refine H.nwD ?_ | refine H.nw ?_); clear H; intro w _ H) | refine H.ce ?_ | refine H.db ?_ | refine ea ?_ | (refine H.st ?_; (conv => whnf); clear H; intro w H) | refine condT fun _ => ?_ | refine condF fun _ => ?_ | refine condNT fun _ => ?_ | refine condNF fun _ => ?_ | refine H.lw ?_ | refine H.ll ?_)); (conv => whnf))
      refine ⟨?_, H.sx⟩
      rw [firstCode_hit hz (by rw [E]; decide) hlt, E]
    rw [if_neg (fun h => h h2)] at E
    (conv => whnf)
    ((first | refine draw_vc (id := 8) tabOk mixed [] [0, 1, 2, 3, 4, 5] (by kernel_rfl) ?_); intro w hdw; replace H := Rel.ext H hdw.ext)
    ((repeat ((conv => whnf); first | refine an ?_ | ((first | refine H.nwD ?_ | refine H.nw ?_); clear H; intro w _ H) | refine H.ce ?_ | refine H.db ?_ | refine ea ?_ | (refine H.st ?_; (conv => whnf); clear H; intro w H) | refine condT fun _ => ?_ | refine condF fun _ => ?_ | refine condNT fun _ => ?_ | refine condNF fun _ => ?_ | refine H.lw ?_ | refine H.ll ?_)); (conv => whnf))
    refine (contains_refs H.data (hs.ctake (n := 2) (fun _ => rfl) hk) (by simp; omega) l[k]).use ?_
    rintro v w ⟨rfl, K⟩
    replace H := H.call K
    (conv => whnf)
    refine condG_dec (fun h3 => ?_) (fun h3 => ?_)
    · rw [if_pos h3] at E
      ((repeat ((conv => whnf); first | refine an ?_ | ((first | refine H.nwD ?_ | refine H.nw ?_); clear H; intro w _ H) | refine H.ce ?_ | refine H.db ?_ | refine ea ?_ | (refine H.st ?_; (conv => whnf); clear H; intro w H) | refine condT fun _ => ?_ | refine condF fun _ => ?_ | refine condNT fun _ => ?_ | refine condNF fun _ => ?_ | refine H.lw ?_ | refine H.ll ?_)); (conv => whnf))
      refine ⟨?_, H.sx⟩
      rw [firstCode_hit hz (by rw [E]; decide) hlt, E]
    rw [if_neg h3] at E
    ((repeat ((conv => whnf); first | refine an ?_ | ((first | refine H.nwD ?_ | refine H.nw ?_); clear H; intro w _ H) | refine H.ce ?_ | refine H.db ?_ | refine ea ?_ | (refine H.st ?_; (conv => whnf); clear H; intro w H) | refine condT fun _ => ?_ | refine condF fun _ => ?_ | refine condNT fun _ => ?_ | refine condNF fun _ => ?_ | refine H.lw ?_ | refine H.ll ?_)); (conv => whnf))
    exact ⟨(by repeat (first | exact trivial | refine ⟨rfl, ?_⟩)), k + 1, (by repeat (first | exact trivial | refine ⟨rfl, ?_⟩)), ⟨by omega, firstCode_zero hz E, H.sx⟩, by omega⟩
  · ((repeat ((conv => whnf); first | refine an ?_ | ((first | refine H.nwD ?_ | refine H.nw ?_); clear H; intro w _ H) | refine H.ce ?_ | refine H.db ?_ | refine ea ?_ | (refine H.st ?_; (conv => whnf); clear H; intro w H) | refine condT fun _ => ?_ | refine condF fun _ => ?_ | refine condNT fun _ => ?_ | refine condNF fun _ => ?_ | refine H.lw ?_ | refine H.ll ?_)); (conv => whnf))
    refine ⟨?_, H⟩
    rw [show l.length = k by omega, hz]

/-! ### manifests -/
def manCode (n : Int) (m : Nat) : Int := if ¬ (0 ≤ n ∧ n ≤ 2048) then 4 else if 86 < m then 2 else 0
def manC (n : Int) (d : Dig) (s : Sl) : List Value := iv n :: (digC d ++ [s.v])
theorem check_store (hV : Sub V W) (n : Int) (d : Dig) (s : Sl) : Ret Tryz.prog 81 [.agg (manC n d s).toArray].toArray W fun v w' => v = faultV (manCode n s.len) (if manCode n s.len = 0 then 0 else -2) ∧ Rel W V [] V w' := by
  have H := Rel.start hV
  refine cal_of_vc tabOk Tryz.func81 rfl (by kernel_rfl) 18 rfl (by simp) [0, 1, 2, 10, 15] ?_
  by_cases h1 : 0 ≤ n ∧ n ≤ 2048
  · by_cases h2 : 86 < s.len
    · have e : manCode n s.len = 2 := by simp [manCode, h1, h2]
      rw [e]
      ((repeat ((conv => whnf); first | refine an ?_ | ((first | refine H.nwD ?_ | refine H.nw ?_); clear H; intro w _ H) | refine H.ce ?_ | refine H.db ?_ | refine ea ?_ | (refine H.st ?_; (conv => whnf); clear H; intro w H) | refine condT fun _ => ?_ | refine condF fun _ => ?_ | refine condNT fun _ => ?_ | refine condNF fun _ => ?_ | refine H.lw ?_ | refine H.ll ?_)); (conv => whnf))
      refine (fault_store H.data 2 (-2)).use ?_
      rintro v w ⟨rfl, K⟩
      replace H := H.call K
      ((repeat ((conv => whnf); first | refine an ?_ | ((first | refine H.nwD ?_ | refine H.nw ?_); clear H; intro w _ H) | refine H.ce ?_ | refine H.db ?_ | refine ea ?_ | (refine H.st ?_; (conv => whnf); clear H; intro w H) | refine condT fun _ => ?_ | refine condF fun _ => ?_ | refine condNT fun _ => ?_ | refine condNF fun _ => ?_ | refine H.lw ?_ | refine H.ll ?_)); (conv => whnf))
      exact H.sx
    · have e : manCode n s.len = 0 := by simp [manCode, h1, h2]
      rw [e]
      ((repeat ((conv => whnf); first | refine an ?_ | ((first | refine H.nwD ?_ | refine H.nw ?_); clear H; intro w _ H) | refine H.ce ?_ | refine H.db ?_ | refine ea ?_ | (refine H.st ?_; (conv => whnf); clear H; intro w H) | refine condT fun _ => ?_ | refine condF fun _ => ?_ | refine condNT fun _ => ?_ | refine condNF fun _ => ?_ | refine H.lw ?_ | refine H.ll ?_)); (conv => whnf))
      exact H.sx
  · have e : manCode n s.len = 4 := by simp only [manCode, h1, not_false_eq_true, if_true]
    rw [e]
    by_cases h0 : n < 0
    · ((repeat ((conv => whnf); first | refine an ?_ | ((first | refine H.nwD ?_ | refine H.nw ?_); clear H; intro w _ H) | refine H.ce ?_ | refine H.db ?_ | refine ea ?_ | (refine H.st ?_; (conv => whnf); clear H; intro w H) | refine condT fun _ => ?_ | refine condF fun _ => ?_ | refine condNT fun _ => ?_ | refine condNF fun _ => ?_ | refine H.lw ?_ | refine H.ll ?_)); (conv => whnf))
      refine (fault_store H.data 4 (-2)).use ?_
      rintro v w ⟨rfl, K⟩
      replace H := H.call K
      ((repeat ((conv => whnf); first | refine an ?_ | ((first | refine H.nwD ?_ | refine H.nw ?_); clear H; intro w _ H) | refine H.ce ?_ | refine H.db ?_ | refine ea ?_ | (refine H.st ?_; (conv => whnf); clear H; intro w H) | refine condT fun _ => ?_ | refine condF fun _ => ?_ | refine condNT fun _ => ?_ | refine condNF fun _ => ?_ | refine H.lw ?_ | refine H.ll ?_)); (conv => whnf))
      exact H.sx
    · ((repeat ((conv => whnf); first | refine an ?_ | ((first | refine H.nwD ?_ | refine H.nw ?_); clear H; intro w _ H) | refine H.ce ?_ | refine H.db ?_ | refine ea ?_ | (refine H.st ?_; (conv => whnf); clear H; intro w H) | refine condT fun _ => ?_ | refine condF fun _ => ?_ | refine condNT fun _ => ?_ | refine condNF fun _ => ?_ | refine H.lw ?_ | refine H.ll ?_)); (conv => whnf))
      refine (fault_store H.data 4 (-2)).use ?_
      rintro v w ⟨rfl, K⟩
      replace H := H.call K
      ((repeat ((conv => whnf); first | refine an ?_ | ((first | refine H.nwD ?_ | refine H.nw ?_); clear H; intro w _ H) | refine H.ce ?_ | refine H.db ?_ | refine ea ?_ | (refine H.st ?_; (conv => whnf); clear H; intro w H) | refine condT fun _ => ?_ | refine condF fun _ => ?_ | refine condNT fun _ => ?_ | refine condNF fun _ => ?_ | refine H.lw ?_ | refine H.ll ?_)); (conv => whnf))
      exact H.sx
theorem manifest_ref (hV : Sub V W) (n : Int) (d : Dig) (s : Sl) : Ret Tryz.prog 51 [.agg (manC n d s).toArray].toArray W fun v w' => v = faultV (manCode n s.len) (if manCode n s.len = 0 then 0 else -2) ∧ Rel W V [] V w' := by
  have H := Rel.start hV
  refine cal_of_vc tabOk Tryz.func51 rfl (by kernel_rfl) 14 rfl (by simp) [0, 1, 2, 6, 11] ?_
  ((repeat ((conv => whnf); first | refine an ?_ | ((first | refine H.nwD ?_ | refine H.nw ?_); clear H; intro w _ H) | refine H.ce ?_ | refine H.db ?_ | refine ea ?_ | (refine H.st ?_; (conv => whnf); clear H; intro w H) | refine condT fun _ => ?_ | refine condF fun _ => ?_ | refine condNT fun _ => ?_ | refine condNF fun _ => ?_ | refine H.lw ?_ | refine H.ll ?_)); (conv => whnf))
  refine (in_ref _ _ _ _).use ?_
  rintro v w ⟨rfl, rfl⟩
  (conv => whnf)
  refine condG_ndec (fun h1 => ?_) (fun h1 => ?_)
  · have e : manCode n s.len = 4 := by simp only [manCode, h1, not_false_eq_true, if_true]
    rw [e]
    ((repeat ((conv => whnf); first | refine an ?_ | ((first | refine H.nwD ?_ | refine H.nw ?_); clear H; intro w _ H) | refine H.ce ?_ | refine H.db ?_ | refine ea ?_ | (refine H.st ?_; (conv => whnf); clear H; intro w H) | refine condT fun _ => ?_ | refine condF fun _ => ?_ | refine condNT fun _ => ?_ | refine condNF fun _ => ?_ | refine H.lw ?_ | refine H.ll ?_)); (conv => whnf))
    refine (at_ref H.data 4 (-2)).use ?_
    rintro v w ⟨rfl, K⟩
    replace H := H.call K
    ((repeat ((conv => whnf); first | refine an ?_ | ((first | refine H.nwD ?_ | refine H.nw ?_); clear H; intro w _ H) | refine H.ce ?_ | refine H.db ?_ | refine ea ?_ | (refine H.st ?_; (conv => whnf); clear H; intro w H) | refine condT fun _ => ?_ | refine condF fun _ => ?_ | refine condNT fun _ => ?_ | refine condNF fun _ => ?_ | refine H.lw ?_ | refine H.ll ?_)); (conv => whnf))
    exact H.sx
  by_cases h2 : 86 < s.len
  · have e : manCode n s.len = 2 := by simp [manCode, h1, h2]
    rw [e]
    ((repeat ((conv => whnf); first | refine an ?_ | ((first | refine H.nwD ?_ | refine H.nw ?_); clear H; intro w _ H) | refine H.ce ?_ | refine H.db ?_ | refine ea ?_ | (refine H.st ?_; (conv => whnf); clear H; intro w H) | refine condT fun _ => ?_ | refine condF fun _ => ?_ | refine condNT fun _ => ?_ | refine condNF fun _ => ?_ | refine H.lw ?_ | refine H.ll ?_)); (conv => whnf))
    refine (at_ref H.data 2 (-2)).use ?_
    rintro v w ⟨rfl, K⟩
    replace H := H.call K
    ((repeat ((conv => whnf); first | refine an ?_ | ((first | refine H.nwD ?_ | refine H.nw ?_); clear H; intro w _ H) | refine H.ce ?_ | refine H.db ?_ | refine ea ?_ | (refine H.st ?_; (conv => whnf); clear H; intro w H) | refine condT fun _ => ?_ | refine condF fun _ => ?_ | refine condNT fun _ => ?_ | refine condNF fun _ => ?_ | refine H.lw ?_ | refine H.ll ?_)); (conv => whnf))
    exact H.sx
  · have e : manCode n s.len = 0 := by simp [manCode, h1, h2]
    rw [e]
    ((repeat ((conv => whnf); first | refine an ?_ | ((first | refine H.nwD ?_ | refine H.nw ?_); clear H; intro w _ H) | refine H.ce ?_ | refine H.db ?_ | refine ea ?_ | (refine H.st ?_; (conv => whnf); clear H; intro w H) | refine condT fun _ => ?_ | refine condF fun _ => ?_ | refine condNT fun _ => ?_ | refine condNF fun _ => ?_ | refine H.lw ?_ | refine H.ll ?_)); (conv => whnf))
    exact H.sx
/-! ### references -/
theorem reference_spec (hV : Sub V W) (e : Ent) (h : EntH) : Ret Tryz.prog 74 [.agg (entC e h).toArray].toArray W fun v w' => v = .agg (refC (refOf e)).toArray ∧ Rel W V [] V w' := by
  have H := Rel.start hV
  refine cal_of_vc tabOk Tryz.func74 rfl (by kernel_rfl) 8 rfl (by simp) [0, 1, 2] ?_
  ((repeat ((conv => whnf); first | refine an ?_ | ((first | refine H.nwD ?_ | refine H.nw ?_); clear H; intro w _ H) | refine H.ce ?_ | refine H.db ?_ | refine ea ?_ | (refine H.st ?_; (conv => whnf); clear H; intro w H) | refine condT fun _ => ?_ | refine condF fun _ => ?_ | refine condNT fun _ => ?_ | refine condNF fun _ => ?_ | refine H.lw ?_ | refine H.ll ?_)); (conv => whnf))
  exact H.sx
theorem refOf_ref (hV : Sub V W) (e : Ent) (h : EntH) : Ret Tryz.prog 52 [.agg (entC e h).toArray].toArray W fun v w' => v = .agg (refC (refOf e)).toArray ∧ Rel W V [] V w' := by
  have H := Rel.start hV
  refine cal_of_vc tabOk Tryz.func52 rfl (by kernel_rfl) 8 rfl (by simp) [0, 1, 2] ?_
  ((repeat ((conv => whnf); first | refine an ?_ | ((first | refine H.nwD ?_ | refine H.nw ?_); clear H; intro w _ H) | refine H.ce ?_ | refine H.db ?_ | refine ea ?_ | (refine H.st ?_; (conv => whnf); clear H; intro w H) | refine condT fun _ => ?_ | refine condF fun _ => ?_ | refine condNT fun _ => ?_ | refine condNF fun _ => ?_ | refine H.lw ?_ | refine H.ll ?_)); (conv => whnf))
  exact H.sx
end
end Go.Proofs.YtlhgmigoncmcaaaGreat
