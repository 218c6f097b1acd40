/-
  Pictures, plain: the file, its plain picture and residue, and the way back.
-/
import Derived.Test.YtgnaojphgdaalaaGreatPicR
import Derived.Test.YtgnaojphgdaalaaGreatPicH
namespace Go.Proofs.YtgnaojphgdaalaaGreat
open Go Go.RowKit

structure Pic where
  wd : Nat
  ht : Nat
  f : Nat
  pal : List Col
  px : List UInt8
def flagOk (f : Nat) : Prop := f < 64 ∧ f % 16 < 4
instance (f : Nat) : Decidable (flagOk f) := by unfold flagOk; infer_instance
def sideOk (n : Nat) : Prop := 1 ≤ n ∧ n ≤ 64
instance (f : Nat) : Decidable (sideOk f) := by unfold sideOk; infer_instance
def turn {α : Type} (f : Nat) (R : List α) : List α := if f % 2 = 1 then R.reverse else R
theorem turn_turn {α : Type} (f : Nat) (R : List α) : turn f (turn f R) = R := by unfold turn; split <;> simp
theorem turn_len {α : Type} (f : Nat) (R : List α) : (turn f R).length = R.length := by unfold turn; split <;> simp
theorem mem_turn {α : Type} {f : Nat} {R : List α} {x : α} : x ∈ turn f R ↔ x ∈ R := by unfold turn; split <;> simp
theorem allM_turn {α β : Type} {g : α → Option β} {l : List α} {ys : List β} (f : Nat) (h : allM g l = some ys) : allM g (turn f l) = some (turn f ys) := by
  unfold turn
  split
  · exact allM_rev h
  · exact h
theorem turn_flat_len {α : Type} (f : Nat) (R : List (List α)) : (turn f R).flatten.length = R.flatten.length := by
  unfold turn
  split
  · exact flatten_rev_len
  · rfl
/-- the stored rows of a file -/
def rowsB (f size : Nat) (B : List UInt8) : Option (List UInt8) := if f / 2 % 2 = 1 then unpB B size else if B.length = size then some B else none
def rowsPx (f : Nat) (pal : List Col) (w h : Nat) (b : List UInt8) : Option (List UInt8) := match allM (rowPix f pal w) (rowsN (rowOf f w) h b) with
  | none => none
  | some R => some (turn f R).flatten
def picRows (f : Nat) (pal : List Col) (w h : Nat) (B : List UInt8) : Option (List UInt8) := match rowsB f (rowOf f w * h) B with
  | none => none
  | some b => rowsPx f pal w h b
def picBody (f : Nat) (pal : List Col) (w h : Nat) : List UInt8 → Option Pic
  | x :: y :: B => if 256 * x.toNat + y.toNat = B.length then (match picRows f pal w h B with
    | none => none
    | some px => some ⟨w, h, f, pal, px⟩) else none
  | _ => none
def picHead (f w h : Nat) (l : List UInt8) : Option Pic := if flagOk f ∧ sideOk w ∧ sideOk h then (match styR f l with
  | none => none
  | some (pal, l2) => picBody f pal w h l2) else none
abbrev ras1 : List UInt8 := [82, 65, 83, 49]
def picFile (b : List UInt8) : Option Pic := if b.take 4 = ras1 then (match b.drop 4 with
  | f :: w :: h :: l => picHead f.toNat w.toNat h.toNat l
  | _ => none) else none
def picRes (f : Nat) (pal : List Col) : List UInt8 := if f = 48 then [] else UInt8.ofNat f :: styB f pal
def picTo (b : List UInt8) : Option (Val × List UInt8) := match picFile b with
  | none => none
  | some x => if (vfault (picVal x.wd x.ht x.px)).1 ≠ 0 then none else some (picVal x.wd x.ht x.px, picRes x.f x.pal)
def picRd : List UInt8 → Option (Nat × List Col)
  | [] => some (48, [])
  | c :: l => if flagOk c.toNat ∧ c.toNat ≠ 48 then (match styR c.toNat l with
    | some (p, []) => some (c.toNat, p)
    | _ => none) else none
structure PicShapeOk (v w h p : Val) : Prop where
  kind : v.kind = 4
  names : v.names = [sWidth, sHeight, sPixels]
  wk : w.kind = 1
  hk : h.kind = 1
  pk : p.kind = 2
  w0 : 1 ≤ w.num ∧ w.num ≤ 64
  h0 : 1 ≤ h.num ∧ h.num ≤ 64
  p0 : p.bytes.length = 3 * w.num.toNat * h.num.toNat
instance (v w h p : Val) : Decidable (PicShapeOk v w h p) := decidable_of_iff (v.kind = 4 ∧ v.names = [sWidth, sHeight, sPixels] ∧ w.kind = 1 ∧ h.kind = 1 ∧ p.kind = 2 ∧ (1 ≤ w.num ∧ w.num ≤ 64) ∧ (1 ≤ h.num ∧ h.num ≤ 64) ∧ p.bytes.length = 3 * w.num.toNat * h.num.toNat) ⟨fun ⟨a, b, c, d, e, f, g, h⟩ => ⟨a, b, c, d, e, f, g, h⟩, fun ⟨a, b, c, d, e, f, g, h⟩ => ⟨a, b, c, d, e, f, g, h⟩⟩
def picShape (v : Val) : Option (Nat × Nat × List UInt8) := match v.parts with
  | [w, h, p] => if PicShapeOk v w h p then some (w.num.toNat, h.num.toNat, p.bytes) else none
  | _ => none
/-- the rows of a picture as they are stored -/
def picStore (f : Nat) (pal : List Col) (w h : Nat) (px : List UInt8) : Option (List UInt8) := match allM (wrRow f pal w) (turn f (rowsN (3 * w) h px)) with
  | none => none
  | some R => some (if f / 2 % 2 = 1 then packB R.flatten else R.flatten)
def picOut (f : Nat) (pal : List Col) (w h : Nat) (B : List UInt8) : List UInt8 := ras1 ++ ([UInt8.ofNat f, UInt8.ofNat w, UInt8.ofNat h] ++ (styB f pal ++ ([UInt8.ofNat (B.length / 256), UInt8.ofNat B.length] ++ B)))
def picWrite (f : Nat) (pal : List Col) (w h : Nat) (px : List UInt8) : Option (List UInt8) := match picStore f pal w h px with
  | none => none
  | some B => some (picOut f pal w h B)
noncomputable def picMake (v : Val) (b : List UInt8) : Option (List UInt8) := match picShape v, picRd b with
  | some (w, h, px), some (f, pal) => (match picWrite f pal w h px with
    | none => none
    | some o => if o.length ≤ 1000 ∧ picTo o = some (v, b) then some o else none)
  | _, _ => none
def picLoss (b : List UInt8) : Option (List LossD) := match picRd b with
  | none => none
  | some (f, pal) => some (lossPic f pal.length)
/-! ### what a file is -/
structure PicIs (b : List UInt8) (x : Pic) (B d : List UInt8) (R : List (List UInt8)) : Prop where
  fl : flagOk x.f
  wd : sideOk x.wd
  ht : sideOk x.ht
  pal : PalOk x.f x.pal
  len : B.length < 65536
  eq : b = picOut x.f x.pal x.wd x.ht B
  rows : rowsB x.f (rowOf x.f x.wd * x.ht) B = some d
  pix : allM (rowPix x.f x.pal x.wd) (rowsN (rowOf x.f x.wd) x.ht d) = some R
  px : x.px = (turn x.f R).flatten
theorem ofNat_toNat' (c : UInt8) : UInt8.ofNat c.toNat = c := UInt8.ofNat_toNat
theorem picFile_some {b : List UInt8} {x : Pic} (h : picFile b = some x) : ∃ B d R, PicIs b x B d R := by
  unfold picFile at h
  split at h
  · rename_i hm
    split at h
    · rename_i f w h' l he
      unfold picHead at h
      split at h
      · rename_i hk
        obtain ⟨k1, k2, k3⟩ := hk
        split at h
        · cases h
        · rename_i pal l2 hs
          unfold picBody at h
          split at h
          · rename_i x1 y1 B
            split at h
            · rename_i hlen
              split at h
              · cases h
              · rename_i px hp
                cases h
                unfold picRows at hp
                split at hp
                · cases hp
                · rename_i d hd
                  unfold rowsPx at hp
                  split at hp
                  · cases hp
                  · rename_i R hR
                    cases hp
                    obtain ⟨e1, e2⟩ := styR_some hs
                    have hx := x1.toNat_lt
                    have hy := y1.toNat_lt
                    refine ⟨B, d, R, k1, k2, k3, e2, by omega, ?_, hd, hR, rfl⟩
                    have hb := List.take_append_drop 4 b
                    rw [hm, he, e1] at hb
                    have q1 : UInt8.ofNat (B.length / 256) = x1 := by rw [show B.length / 256 = x1.toNat by omega, ofNat_toNat']
                    have q2 : UInt8.ofNat B.length = y1 := by
                      apply UInt8.toNat_inj.1
                      rw [UInt8.toNat_ofNat']
                      omega
                    rw [← hb]
                    unfold picOut
                    simp only [ofNat_toNat', q1, q2, List.cons_append, List.nil_append]
            · cases h
          · cases h
      · cases h
    · cases h
  · cases h
theorem picFile_of {b : List UInt8} {x : Pic} {B d : List UInt8} {R : List (List UInt8)} (P : PicIs b x B d R) : picFile b = some x := by
  obtain ⟨k1, k2, k3, k4, k5, k6, k7, k8, k9⟩ := P
  have e : ∀ n, n < 256 → (UInt8.ofNat n).toNat = n := fun n h => by rw [UInt8.toNat_ofNat']; omega
  have f1 := k1.1
  have w1 := k2.2
  have h1 := k3.2
  rw [k6]
  unfold picOut
  unfold picFile
  rw [if_pos (by rfl)]
  show picHead (UInt8.ofNat x.f).toNat (UInt8.ofNat x.wd).toNat (UInt8.ofNat x.ht).toNat (styB x.f x.pal ++ ([UInt8.ofNat (B.length / 256), UInt8.ofNat B.length] ++ B)) = some x
  rw [e _ (by omega), e _ (by omega), e _ (by omega)]
  unfold picHead
  rw [if_pos ⟨k1, k2, k3⟩, styR_of _ k4]
  show picBody x.f x.pal x.wd x.ht (UInt8.ofNat (B.length / 256) :: UInt8.ofNat B.length :: B) = some x
  unfold picBody
  simp only
  rw [if_pos (by rw [UInt8.toNat_ofNat', UInt8.toNat_ofNat']; omega)]
  unfold picRows rowsPx
  rw [k7]
  simp only
  rw [k8]
  simp only
  rw [← k9]
theorem rowsB_len {f size : Nat} {B d : List UInt8} (h : rowsB f size B = some d) : d.length = size := by
  unfold rowsB at h
  split at h
  · exact (unpB_iff.1 h).1
  · split at h
    · rename_i e; cases h; exact e
    · cases h
theorem rowsB_back {f size : Nat} {B d : List UInt8} (h : rowsB f size B = some d) : B = if f / 2 % 2 = 1 then packB d else d := by
  unfold rowsB at h
  by_cases hc : f / 2 % 2 = 1
  · rw [if_pos hc] at h ⊢
    exact (unpB_iff.1 h).2.symm
  · rw [if_neg hc] at h ⊢
    split at h
    · cases h; rfl
    · cases h
theorem rowsB_of {f size : Nat} {d : List UInt8} (h : d.length = size) : rowsB f size (if f / 2 % 2 = 1 then packB d else d) = some d := by
  unfold rowsB
  by_cases hc : f / 2 % 2 = 1
  · rw [if_pos hc, if_pos hc]
    exact unpB_iff.2 ⟨h, rfl⟩
  · rw [if_neg hc, if_neg hc, if_pos h]
theorem PicIs.len_d {b : List UInt8} {x : Pic} {B d : List UInt8} {R : List (List UInt8)} (P : PicIs b x B d R) : d.length = x.ht * rowOf x.f x.wd := by rw [rowsB_len P.rows, Nat.mul_comm]
theorem PicIs.row {b : List UInt8} {x : Pic} {B d : List UInt8} {R : List (List UInt8)} (P : PicIs b x B d R) : R.length = x.ht ∧ (∀ r ∈ R, r.length = 3 * x.wd) ∧ (∀ r ∈ R, grayOk x.f x.wd r) ∧ allM (wrRow x.f x.pal x.wd) R = some (rowsN (rowOf x.f x.wd) x.ht d) := by
  obtain ⟨h1, h2⟩ := allM_some P.pix
  rw [rowsN_len] at h1
  have key : ∀ (i : Nat) (r : List UInt8), R[i]? = some r → r.length = 3 * x.wd ∧ grayOk x.f x.wd r ∧ ∃ y, (rowsN (rowOf x.f x.wd) x.ht d)[i]? = some y ∧ wrRow x.f x.pal x.wd r = some y := by
    intro i r hi
    obtain ⟨hlt, _⟩ := List.getElem?_eq_some_iff.1 hi
    have hy : (rowsN (rowOf x.f x.wd) x.ht d)[i]? = some ((rowsN (rowOf x.f x.wd) x.ht d)[i]'(by rw [rowsN_len]; omega)) := List.getElem?_eq_getElem _
    obtain ⟨a, b, c⟩ := wr_rowPix P.fl.1 P.pal (rowsN_mem P.len_d (List.mem_of_getElem? hy)) (h2 i _ _ hy hi)
    exact ⟨a, b, _, hy, c⟩
  refine ⟨h1, fun r hr => ?_, fun r hr => ?_, ?_⟩
  · obtain ⟨i, hi, rfl⟩ := List.mem_iff_getElem.1 hr
    exact (key i _ (List.getElem?_eq_getElem hi)).1
  · obtain ⟨i, hi, rfl⟩ := List.mem_iff_getElem.1 hr
    exact (key i _ (List.getElem?_eq_getElem hi)).2.1
  · refine allM_of (by rw [rowsN_len, h1]) fun i r y hr hy => ?_
    obtain ⟨_, _, y', hy', hw⟩ := key i r hr
    rw [hy] at hy'
    cases hy'
    exact hw
theorem PicIs.px_len {b : List UInt8} {x : Pic} {B d : List UInt8} {R : List (List UInt8)} (P : PicIs b x B d R) : x.px.length = x.ht * (3 * x.wd) ∧ rowsN (3 * x.wd) x.ht x.px = turn x.f R := by
  obtain ⟨r1, r2, _⟩ := P.row
  have := flat_rows (s := 3 * x.wd) (R := turn x.f R) fun r hr => r2 r (mem_turn.1 hr)
  rw [turn_len, r1, ← P.px] at this
  exact this
/-- what was read is written as it was -/
theorem PicIs.write {b : List UInt8} {x : Pic} {B d : List UInt8} {R : List (List UInt8)} (P : PicIs b x B d R) : picWrite x.f x.pal x.wd x.ht x.px = some b := by
  obtain ⟨r1, r2, r3, r4⟩ := P.row
  unfold picWrite picStore
  rw [P.px_len.2, turn_turn, r4]
  simp only
  rw [rowsN_flat P.len_d, ← rowsB_back P.rows, ← P.eq]
theorem picRes_back {f : Nat} {pal : List Col} (h : flagOk f) (hp : PalOk f pal) : picRd (picRes f pal) = some (f, pal) := by
  unfold picRes
  split
  · rename_i e
    subst e
    rw [hp.non (by omega)]
    rfl
  · rename_i e
    have h1 := h.1
    have e1 : (UInt8.ofNat f).toNat = f := by rw [UInt8.toNat_ofNat']; omega
    unfold picRd
    simp only
    rw [e1, if_pos ⟨h, e⟩]
    have := styR_of [] hp
    rw [List.append_nil] at this
    rw [this]
theorem picRd_some {b : List UInt8} {f : Nat} {pal : List Col} (h : picRd b = some (f, pal)) : b = picRes f pal ∧ flagOk f ∧ PalOk f pal := by
  cases b with
  | nil =>
    cases h
    exact ⟨rfl, by decide, ⟨fun q => by omega, fun _ => rfl⟩⟩
  | cons c l =>
    unfold picRd at h
    simp only at h
    split at h
    · rename_i hk
      split at h
      · rename_i p hs
        cases h
        obtain ⟨e1, e2⟩ := styR_some hs
        rw [List.append_nil] at e1
        refine ⟨?_, hk.1, e2⟩
        unfold picRes
        rw [if_neg hk.2, ofNat_toNat', e1]
      · cases h
    · cases h
theorem picShape_val {w h : Nat} {b : List UInt8} (h1 : sideOk w) (h2 : sideOk h) (h3 : b.length = 3 * w * h) : picShape (picVal w h b) = some (w, h, b) := by
  unfold picShape
  show (if PicShapeOk (picVal w h b) (.mk 1 w [] [] []) (.mk 1 h [] [] []) (.mk 2 0 b [] []) then _ else _) = _
  unfold sideOk at h1 h2
  rw [if_pos]
  · simp
  · exact ⟨rfl, rfl, rfl, rfl, rfl, by show (1 : Int) ≤ w ∧ (w : Int) ≤ 64; omega, by show (1 : Int) ≤ h ∧ (h : Int) ≤ 64; omega, by show b.length = 3 * (w : Int).toNat * (h : Int).toNat; simpa using h3⟩
theorem picShape_some {v : Val} {w h : Nat} {b : List UInt8} (hv : (vfault v).1 = 0) (hs : picShape v = some (w, h, b)) : v = picVal w h b ∧ sideOk w ∧ sideOk h ∧ b.length = 3 * w * h := by
  unfold picShape at hs
  split at hs
  · rename_i r c s hp
    split at hs
    · rename_i k
      cases hs
      have hr0 := k.w0
      have hc0 := k.h0
      obtain ⟨_, k2⟩ := valid_node hv
      have e1 := valid_num (k2 r (by rw [hp]; simp)) k.wk
      have e2 := valid_num (k2 c (by rw [hp]; simp)) k.hk
      have e3 := valid_byt (k2 s (by rw [hp]; simp)) k.pk
      obtain ⟨n1, n2, n3⟩ := valid_rec hv k.kind
      refine ⟨Val.ext k.kind n2 n3 k.names ?_, by unfold sideOk; omega, by unfold sideOk; omega, k.p0⟩
      rw [hp]
      show [r, c, s] = [.mk 1 (r.num.toNat : Int) [] [] [], .mk 1 (c.num.toNat : Int) [] [] [], .mk 2 0 s.bytes [] []]
      rw [Int.toNat_of_nonneg (by omega), Int.toNat_of_nonneg (by omega), ← e1, ← e2, ← e3]
    · cases hs
  · cases hs
theorem picTo_some {b : List UInt8} {v : Val} {r : List UInt8} (h : picTo b = some (v, r)) : ∃ x, picFile b = some x ∧ (vfault v).1 = 0 ∧ v = picVal x.wd x.ht x.px ∧ r = picRes x.f x.pal := by
  unfold picTo at h
  split at h
  · cases h
  · rename_i x hx
    split at h
    · cases h
    · rename_i h0
      cases h
      exact ⟨x, hx, Decidable.not_not.1 h0, rfl, rfl⟩
/-- a file that is accepted is restored -/
theorem pic_round {b : List UInt8} {v : Val} {r : List UInt8} (hl : b.length ≤ 1000) (h : picTo b = some (v, r)) : picMake v r = some b := by
  obtain ⟨x, hx, hv0, hv, hr⟩ := picTo_some h
  obtain ⟨B, d, R, P⟩ := picFile_some hx
  have hsh : picShape v = some (x.wd, x.ht, x.px) := by
    rw [hv]
    exact picShape_val P.wd P.ht (by rw [P.px_len.1]; simp [Nat.mul_comm, Nat.mul_left_comm])
  unfold picMake
  rw [hsh, hr, picRes_back P.fl P.pal]
  simp only
  rw [P.write]
  simp only
  rw [if_pos ⟨hl, by rw [← hr]; exact h⟩]
theorem picMake_some {v : Val} {b o : List UInt8} (h : picMake v b = some o) : o.length ≤ 1000 ∧ picTo o = some (v, b) := by
  unfold picMake at h
  split at h
  · split at h
    · cases h
    · split at h
      · rename_i hk; cases h; exact hk
      · cases h
  · cases h
/-- pixels of which those of gray are gray -/
def graysOk (f w h : Nat) (px : List UInt8) : Prop := ∀ r ∈ rowsN (3 * w) h px, grayOk f w r
instance (f w h : Nat) (px : List UInt8) : Decidable (graysOk f w h px) := by unfold graysOk; infer_instance
/-- what is written is read as it was -/
theorem picWrite_file {f w h : Nat} {pal : List Col} {px o : List UInt8} (hf : flagOk f) (hw : sideOk w) (hh : sideOk h) (hp : PalOk f pal) (hx : px.length = 3 * w * h) (hg : graysOk f w h px) (ho : picWrite f pal w h px = some o) (hl : o.length ≤ 1000) : picFile o = some ⟨w, h, f, pal, px⟩ := by
  have hx' : px.length = h * (3 * w) := by rw [hx, Nat.mul_comm]
  unfold picWrite at ho
  split at ho
  · cases ho
  · rename_i B hB
    cases ho
    unfold picStore at hB
    split at hB
    · cases hB
    · rename_i R hR
      cases hB
      obtain ⟨a1, a2⟩ := allM_some hR
      rw [turn_len, rowsN_len] at a1
      have key : ∀ (i : Nat) (y : List UInt8), R[i]? = some y → ∃ r, (turn f (rowsN (3 * w) h px))[i]? = some r ∧ y.length = rowOf f w ∧ rowPix f pal w y = some r := by
        intro i y hi
        obtain ⟨hlt, _⟩ := List.getElem?_eq_some_iff.1 hi
        have hr : (turn f (rowsN (3 * w) h px))[i]? = some ((turn f (rowsN (3 * w) h px))[i]'(by rw [turn_len, rowsN_len]; omega)) := List.getElem?_eq_getElem _
        have hm := mem_turn.1 (List.mem_of_getElem? hr)
        obtain ⟨b1, b2⟩ := rowPix_wr hf.1 hp (rowsN_mem hx' hm) (hg _ hm) (a2 i _ _ hr hi)
        exact ⟨_, hr, b1, b2⟩
      have hrl : ∀ y ∈ R, y.length = rowOf f w := by
        intro y hy
        obtain ⟨i, hi, rfl⟩ := List.mem_iff_getElem.1 hy
        obtain ⟨_, _, e, _⟩ := key i _ (List.getElem?_eq_getElem hi)
        exact e
      obtain ⟨f1, f2⟩ := flat_rows hrl
      rw [a1] at f1 f2
      have hBl : (if f / 2 % 2 = 1 then packB R.flatten else R.flatten).length < 65536 := by
        unfold picOut at hl
        simp only [List.length_append, List.length_cons] at hl
        omega
      refine picFile_of (B := if f / 2 % 2 = 1 then packB R.flatten else R.flatten) (d := R.flatten) (R := turn f (rowsN (3 * w) h px)) ⟨hf, hw, hh, hp, hBl, rfl, rowsB_of (by rw [f1, Nat.mul_comm]), ?_, ?_⟩
      · show allM (rowPix f pal w) (rowsN (rowOf f w) h R.flatten) = _
        rw [f2]
        refine allM_of (by rw [turn_len, rowsN_len, a1]) fun i y r hy hr => ?_
        obtain ⟨r', hr', _, e⟩ := key i y hy
        rw [hr] at hr'
        cases hr'
        exact e
      · show px = (turn f (turn f (rowsN (3 * w) h px))).flatten
        rw [turn_turn, rowsN_flat hx']
theorem picMake_eq {v : Val} {b : List UInt8} {f w h : Nat} {pal : List Col} {px : List UInt8} (hv : (vfault v).1 = 0) (hs : picShape v = some (w, h, px)) (hr : picRd b = some (f, pal)) : picMake v b = match picWrite f pal w h px with
    | none => none
    | some o => if o.length ≤ 1000 ∧ graysOk f w h px then some o else none := by
  obtain ⟨e1, e2, e3, e4⟩ := picShape_some hv hs
  obtain ⟨r1, r2, r3⟩ := picRd_some hr
  unfold picMake
  rw [hs, hr]
  simp only
  cases ho : picWrite f pal w h px with
  | none => rfl
  | some o =>
    simp only
    by_cases hl : o.length ≤ 1000
    rotate_left
    · rw [if_neg (fun q => hl q.1), if_neg (fun q => hl q.1)]
    by_cases hg : graysOk f w h px
    · have ht : picTo o = some (v, b) := by
        unfold picTo
        rw [picWrite_file r2 e2 e3 r3 e4 hg ho hl]
        simp only
        rw [← e1, if_neg (fun q => q hv), ← r1]
      rw [if_pos ⟨hl, ht⟩, if_pos ⟨hl, hg⟩]
    · have hn : ¬ (o.length ≤ 1000 ∧ picTo o = some (v, b)) := by
        rintro ⟨_, ht⟩
        obtain ⟨x, hx, _, hxv, hxr⟩ := picTo_some ht
        obtain ⟨B, d, R, P⟩ := picFile_some hx
        obtain ⟨_, _, g, _⟩ := P.row
        have q1 := picRes_back P.fl P.pal
        rw [← hxr, hr] at q1
        cases q1
        rw [e1] at hxv
        have q2 : (picVal w h px) = picVal x.wd x.ht x.px := hxv
        injection q2 with _ _ _ _ q3
        injection q3 with q4 q5
        injection q5 with q6 q7
        injection q7 with q8
        injection q4 with _ q4
        injection q6 with _ q6
        injection q8 with _ _ q8
        have w1 : w = x.wd := by omega
        have w2 : h = x.ht := by omega
        refine hg ?_
        rw [w1, w2, q8]
        intro r hr
        rw [P.px_len.2] at hr
        exact g r (mem_turn.1 hr)
      rw [if_neg hn, if_neg (fun q => hg q.2)]
theorem enc_pic (wd ht : Int) (b : List UInt8) : enc (picVal wd ht b) = putN 4 ++ (putN 3 ++ (putC sWidth ++ (putN 1 ++ putN wd) ++ (putC sHeight ++ (putN 1 ++ putN ht)) ++ (putC sPixels ++ (putN 2 ++ putC b)))) := by
  rw [enc_eq]
  simp only [Val.kind, Val.num, Val.bytes, Val.names, Val.parts]
  rw [if_neg (by decide), if_neg (by decide)]
  simp only [encL, List.zipIdx_cons, List.zipIdx_nil, List.flatMap_cons, List.flatMap_nil, enc_num, enc_byt]
  simp
theorem chk_pic (wd ht : Int) (b : List UInt8) : chk 0 (picVal wd ht b) 0 = .ok 4 := by
  have e : pre 0 (picVal wd ht b) = [(picVal wd ht b, 0), (.mk 1 wd [] [] [], 1), (.mk 1 ht [] [] [], 1), (.mk 2 0 b [] [], 1)] := by
    rw [pre_eq]
    simp [pre_eq]
  have n1 : ∀ n : Int, nodeCode (.mk 1 n [] [] []) = 0 := fun n => by simp [nodeCode, formBad, Val.kind, Val.num, Val.bytes, Val.names, Val.parts]
  have n2 : nodeCode (.mk 2 0 b [] []) = 0 := by simp [nodeCode, formBad, Val.kind, Val.num, Val.bytes, Val.names, Val.parts]
  have n3 : nodeCode (picVal wd ht b) = 0 := by
    unfold nodeCode
    rw [if_neg (by simp [Val.kind]), if_neg (by simp [formBad, Val.kind, Val.num, Val.bytes, Val.names, Val.parts]), if_neg (by simp [Val.parts]), if_neg (by
      show ¬ [sWidth, sHeight, sPixels].any (fun s => !nameOk s) = true
      decide), if_neg (by
      show ¬ ¬ [sWidth, sHeight, sPixels].Nodup
      decide)]
  unfold chk
  rw [e]
  simp [scan, atCode, n1, n2, n3]
theorem vfault_pic {wd ht : Int} {b : List UInt8} (h1 : I64 wd) (h2 : I64 ht) (h3 : b.length ≤ 3000) : vfault (picVal wd ht b) = (0, 0) := by
  have hl := congrArg List.length (enc_pic wd ht b)
  have a1 := putN_len h1.1 h1.2
  have a2 := putN_len h2.1 h2.2
  have a3 := putC_len (b := b) (by omega)
  have a4 := putC_len (b := sWidth) (by decide)
  have a5 := putC_len (b := sHeight) (by decide)
  have a6 := putC_len (b := sPixels) (by decide)
  have a7 := putN_len (n := 4) (by decide) (by decide)
  have a8 := putN_len (n := 3) (by decide) (by decide)
  have a9 := putN_len (n := 1) (by decide) (by decide)
  have a10 := putN_len (n := 2) (by decide) (by decide)
  simp only [List.length_append, List.length_cons, List.length_nil] at hl a4 a5 a6
  unfold vfault
  rw [chk_pic]
  simp only
  rw [if_neg (by omega)]
theorem vfault_pic_big {wd ht : Int} {b : List UInt8} (h3 : 4000 < b.length) : (vfault (picVal wd ht b)).1 ≠ 0 := by
  have hl := congrArg List.length (enc_pic wd ht b)
  have := putC_ge b
  simp only [List.length_append] at hl
  unfold vfault
  rw [chk_pic]
  simp only
  rw [if_pos (by omega)]
  decide
theorem lossPic_nil {f n : Nat} (hf : f < 64) (h16 : f % 16 < 4) : lossPic f n = [] ↔ f = 48 := by
  have hb : bitsOf f = 24 ↔ f / 16 = 3 := by
    unfold bitsOf
    split
    · omega
    · split
      · omega
      · split <;> omega
  unfold lossPic
  constructor
  · intro h
    obtain ⟨h, h4⟩ := List.append_eq_nil_iff.1 h
    obtain ⟨h, h3⟩ := List.append_eq_nil_iff.1 h
    obtain ⟨h1, h2⟩ := List.append_eq_nil_iff.1 h
    split at h1
    · split at h2
      · cases h2
      · split at h3
        · cases h3
        · have := hb.1 (by assumption)
          omega
    · cases h1
  · rintro rfl
    simp [bitsOf]
theorem lossPic_len (f n : Nat) : (lossPic f n).length ≤ 4 := by
  unfold lossPic
  simp only [List.length_append]
  split <;> split <;> split <;> split <;> simp
theorem picRes_nil {f : Nat} {pal : List Col} : picRes f pal = [] ↔ f = 48 := by
  unfold picRes
  split
  · rename_i h; exact ⟨fun _ => h, fun _ => rfl⟩
  · rename_i h; exact ⟨fun q => absurd q (by simp), fun q => absurd q h⟩
theorem picRes_len {f : Nat} {pal : List Col} (hp : PalOk f pal) : (picRes f pal).length ≤ 50 := by
  have := styB_len hp
  unfold picRes
  split
  · simp
  · simp; omega
theorem pic_valid {b : List UInt8} {v : Val} {r : List UInt8} (hl : b.length ≤ 1000) (h : picTo b = some (v, r)) : VB 1048576 v ∧ (vfault v).1 = 0 ∧ (picShape v).isSome = true ∧ picMake v r = some b ∧ r.length ≤ 100000000 ∧ ∃ ls, picLoss r = some ls ∧ ls.length ≤ 4 ∧ (ls = [] ↔ r = []) := by
  have hmk := pic_round hl h
  obtain ⟨x, hx, hv0, hv, hr⟩ := picTo_some h
  obtain ⟨B, d, R, P⟩ := picFile_some hx
  obtain ⟨w1, w2⟩ := P.wd
  obtain ⟨h1, h2⟩ := P.ht
  have hpx := P.px_len.1
  have hm : x.ht * (3 * x.wd) ≤ 64 * 192 := Nat.mul_le_mul h2 (by omega)
  have := picRes_len P.pal
  refine ⟨?_, hv0, ?_, hmk, by rw [hr]; omega, lossPic x.f x.pal.length, ?_, lossPic_len _ _, ?_⟩
  · rw [hv]
    exact vb_pic (by constructor <;> omega) (by constructor <;> omega) (by omega)
  · cases hs : picShape v with
    | none => unfold picMake at hmk; rw [hs] at hmk; cases hmk
    | some y => rfl
  · rw [hr]
    unfold picLoss
    rw [picRes_back P.fl P.pal]
  · rw [hr, lossPic_nil P.fl.1 P.fl.2, picRes_nil]
end Go.Proofs.YtgnaojphgdaalaaGreat
namespace Go.Proofs.YtgnaojphgdaalaaGreat
open Go Go.RowKit

def flipF (f : Nat) : Nat := if f % 2 = 1 then f - 1 else f + 1
theorem flipF_eq (f : Nat) : flipF f / 16 = f / 16 ∧ flipF f / 2 = f / 2 ∧ (flipF f < 32 ↔ f < 32) ∧ (flipF f < 64 ↔ f < 64) := by
  unfold flipF
  split <;> omega
theorem rowOf_flip (f w : Nat) : rowOf (flipF f) w = rowOf f w ∧ bitsOf (flipF f) = bitsOf f ∧ mostP (flipF f) = mostP f := by
  obtain ⟨h1, _⟩ := flipF_eq f
  unfold rowOf bitsOf mostP
  rw [h1]
  exact ⟨rfl, rfl, rfl⟩
theorem wrRow_flip (f : Nat) (pal : List Col) (w : Nat) : wrRow (flipF f) pal w = wrRow f pal w := by
  obtain ⟨h1, _⟩ := flipF_eq f
  obtain ⟨h2, h3, _⟩ := rowOf_flip f w
  funext px
  unfold wrRow
  rw [h1, h2, h3]
theorem styB_flip (f : Nat) (pal : List Col) : styB (flipF f) pal = styB f pal := by
  obtain ⟨_, _, h, _⟩ := flipF_eq f
  unfold styB
  by_cases hf : f < 32
  · rw [if_pos hf, if_pos (h.2 hf)]
  · rw [if_neg hf, if_neg (fun q => hf (h.1 q))]
/-- the rows in the other order, and the flags that say so: the same picture -/
theorem pic_turned {b : List UInt8} {v : Val} {r : List UInt8} {f : Nat} {pal : List Col} (hl : b.length ≤ 1000) (h : picTo b = some (v, r)) (hr : picRd r = some (f, pal)) (hf : f % 4 ≤ 1) : ∃ o, picMake v (picRes (flipF f) pal) = some o ∧ o.length = b.length := by
  obtain ⟨x, hx, hv0, hv, hr'⟩ := picTo_some h
  obtain ⟨B, d, R, P⟩ := picFile_some hx
  rw [hr', picRes_back P.fl P.pal] at hr
  cases hr
  have fl := P.fl
  obtain ⟨w1, w2⟩ := P.wd
  obtain ⟨h1, h2⟩ := P.ht
  obtain ⟨g1, g2, g3, g4⟩ := flipF_eq x.f
  obtain ⟨q1, q2, q3⟩ := rowOf_flip x.f x.wd
  obtain ⟨r1, r2, r3, r4⟩ := P.row
  have fl' : flagOk (flipF x.f) := ⟨g4.2 fl.1, by have := fl.2; unfold flipF; split <;> omega⟩
  have pal' : PalOk (flipF x.f) x.pal := ⟨fun q => by rw [q3]; exact P.pal.ind (g3.1 q), fun q => P.pal.non (by have := g3.2; omega)⟩
  have hsh : picShape v = some (x.wd, x.ht, x.px) := by
    rw [hv]
    exact picShape_val P.wd P.ht (by rw [P.px_len.1]; simp [Nat.mul_comm, Nat.mul_left_comm])
  have hrd := picRes_back fl' pal'
  rw [picMake_eq hv0 hsh hrd]
  have hB : B = d := by rw [rowsB_back P.rows, if_neg (by omega)]
  have hall : allM (wrRow (flipF x.f) x.pal x.wd) (turn (flipF x.f) (rowsN (3 * x.wd) x.ht x.px)) = some (turn (flipF x.f) (turn x.f (rowsN (rowOf x.f x.wd) x.ht d))) := by
    rw [wrRow_flip, P.px_len.2]
    exact allM_turn _ (allM_turn _ r4)
  have hw : picWrite (flipF x.f) x.pal x.wd x.ht x.px = some (picOut (flipF x.f) x.pal x.wd x.ht (turn (flipF x.f) (turn x.f (rowsN (rowOf x.f x.wd) x.ht d))).flatten) := by
    unfold picWrite picStore
    rw [hall]
    simp only
    rw [if_neg (by omega)]
  have hlen : (picOut (flipF x.f) x.pal x.wd x.ht (turn (flipF x.f) (turn x.f (rowsN (rowOf x.f x.wd) x.ht d))).flatten).length = b.length := by
    rw [P.eq]
    unfold picOut
    simp only [List.length_append, List.length_cons, List.length_nil, turn_flat_len, rowsN_flat P.len_d, styB_flip, hB]
  rw [hw]
  refine ⟨_, ?_, hlen⟩
  simp only
  rw [if_pos]
  refine ⟨by omega, ?_⟩
  intro rr hrr
  rw [P.px_len.2] at hrr
  have := r3 rr (mem_turn.1 hrr)
  intro q
  exact this (by omega)
end Go.Proofs.YtgnaojphgdaalaaGreat
