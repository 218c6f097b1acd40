/-
  The iterator of pieces; Cut and Split.
-/
import Derived.Test.YtkmnncajfhamhaaPieD
import Derived.Test.YtkmnncajfhamhaaVcH
namespace Go.Proofs.Ytkmnncajfhamhaa
open Go Go.RowKit

theorem each_spec {w : World} (x : Sl) : Ret Try.prog 20 [x.v].toArray w fun v w' => ∃ b, v = .func (.func 28) #[] #[.pointer (some ⟨b, 0, none⟩)] ∧ NewBlk w b [x.v] 22 w' := by
  refine cal_of_vc tabOk Try.func20 rfl (by kernel_rfl) 4 rfl (by simp) [0, 1, 2] ?_
  (conv => whnf)
  intro w1 b hb
  (conv => whnf)
  exact ⟨b, rfl, hb⟩
theorem cutS_prefix (l : List UInt8) {k n : Nat} (h : k ≤ n) : (cutS l k).2 <+: (cutS l n).2 := by
  induction n with
  | zero => rw [show k = 0 by omega]; exact List.prefix_refl _
  | succ n ih =>
    by_cases e : k = n + 1
    · subst e; exact List.prefix_refl _
    · refine (ih (by omega)).trans ?_
      simp only [cutS]
      split
      · exact List.prefix_append _ _
      · exact List.prefix_refl _
theorem cutS_at {l : List UInt8} {k : Nat} (hk : k < l.length) (h : isEndM l (cutS l k).1 (k + 1) = true) : (cutS l l.length).2[(cutS l k).2.length]? = some ((cutS l k).1, k + 1) := by
  obtain ⟨t, ht⟩ := cutS_prefix l (show k + 1 ≤ l.length by omega)
  rw [← ht]
  simp [cutS, h]
theorem each_iter {x : Sl} {l : List UInt8} (hl : l.length ≤ 2048) (b : Nat) : IterOk Try.prog 28 [.pointer (some ⟨b, 0, none⟩)] ((cutS l l.length).2.map fun p => [iv p.1, iv p.2]) (fun W => Blk W b [x.v] 22 ∧ By W x l) := by
  refine ⟨enters_mk Try.func28 rfl (by kernel_rfl), ?_⟩
  intro L W J Jx hS hJ hJx hround h0
  refine cal_of_vc tabOk Try.func28 rfl (by kernel_rfl) 21 rfl (by simp) [0, 1, 3, 4, 8, 14, 19] ?_
  (conv => whnf)
  refine loop_inv tabOk [0, 1] (fun k : Nat => [(3, .int .i64 (cutS l k).1), (4, .int .i64 ((k : Int) + 1))]) (fun k w' => k ≤ l.length ∧ J (cutS l k).2.length w') (fun k _ => l.length - k) 0 ?_
  (conv => whnf)
  refine ⟨(by repeat (first | exact trivial | refine ⟨rfl, ?_⟩)), ⟨by omega, h0⟩, ?_⟩
  rintro k w1 ⟨hk, hj⟩
  obtain ⟨hb, hx⟩ := hS _ _ hj
  have hc : w1.cell? ⟨b, 0, none⟩ = some x.v := hb.cell 0
  have hlen := hx.len
  have hle := cutS_le l k
  ((repeat ((conv => whnf); first | refine And.intro (by first | omega | assumption | exact rfl) ?_ | refine Exists.intro _ (And.intro (by assumption) ?_) | refine Exists.intro _ (Exists.intro _ (And.intro (by assumption) ?_)) | refine Exists.intro _ (And.intro (Blk.cel (by assumption) (by rfl)) ?_))); (conv => whnf))
  refine condG_dec (fun h4 => ?_) (fun h4 => ?_)
  · ((repeat ((conv => whnf); first | refine And.intro (by first | omega | assumption | exact rfl) ?_ | refine Exists.intro _ (And.intro (by assumption) ?_) | refine Exists.intro _ (Exists.intro _ (And.intro (by assumption) ?_)) | refine Exists.intro _ (And.intro (Blk.cel (by assumption) (by rfl)) ?_))); (conv => whnf))
    refine (isEnd_spec hx hl (cutS l k).1 (k + 1) (by omega) (by omega)).use ?_
    rintro v w2 ⟨rfl, rfl⟩
    (conv => whnf)
    refine condG_split (fun h5 => ?_) (fun h5 => ?_)
    · (conv => whnf)
      refine (hround (cutS l k).2.length [iv (cutS l k).1, iv (k + 1)] w2 ?_ hj).mono ?_
      · rw [List.getElem?_map, cutS_at (by omega) h5]; rfl
      rintro r w3 ⟨ht, hf⟩
      (conv => whnf)
      refine condG_split (fun h6 => ?_) (fun h6 => ?_)
      · (conv => whnf)
        exact .inr (hf (by simpa using h6))
      · ((repeat ((conv => whnf); refine And.intro (by omega) ?_)); (conv => whnf))
        refine ⟨rfl, (by repeat (first | exact trivial | refine ⟨rfl, ?_⟩)), k + 1, ⟨?_, rfl, trivial⟩, ⟨by omega, ?_⟩, by omega⟩
        · simp [cutS, h5]; rfl
        · have := ht (by simpa using h6)
          simpa [cutS, h5] using this
    · ((repeat ((conv => whnf); refine And.intro (by omega) ?_)); (conv => whnf))
      refine ⟨rfl, (by repeat (first | exact trivial | refine ⟨rfl, ?_⟩)), k + 1, ⟨?_, rfl, trivial⟩, ⟨by omega, ?_⟩, by omega⟩
      · simp [cutS, h5]; rfl
      · simp [cutS, h5]; exact hj
  · (conv => whnf)
    rw [show k = l.length by omega] at hj
    exact .inl (by simpa using hj)

theorem Row.upd {w w' : World} {s : Sl} {e : TypeId} {sz : Nat} {xs : List Value} (h : Row w s e sz xs) {b : Nat} {l : List Value} {t : TypeId} (hu : Upd w b l t w') (hne : s.a = none ∨ ablk s.a ≠ b) : Row w' s e sz xs := by
  refine h.tw fun c hc => hu.other ?_
  rcases hne with h1 | h1
  · rw [hc] at h1; cases h1
  · rw [hc] at h1; exact h1
theorem NBy.tw {B B' : Nat} {w w' : World} {s : Sl} {l : List UInt8} (h : NBy B w s l) (ht : Tw B' w w') : NBy B w' s l := ⟨h.row.twb ht, h.new⟩
theorem NBy.upd {B : Nat} {w w' : World} {s : Sl} {l : List UInt8} (h : NBy B w s l) {b : Nat} {c : List Value} {t : TypeId} (hu : Upd w b c t w') (hb : b < B) : NBy B w' s l := ⟨h.row.upd hu (h.new.imp id fun h => by omega), h.new⟩
theorem NCh.tw {B B' : Nat} {w w' : World} {s : Sl} {ll : List (List UInt8)} (h : NCh B w s ll) (ht : Tw B' w w') : NCh B w' s ll := by
  obtain ⟨hs, h1, h2, h3⟩ := h.ex
  exact ⟨h.new, hs, h1, h2.twb ht, fun i x l hx hl => (h3 i x l hx hl).tw ht⟩
theorem NCh.upd {B : Nat} {w w' : World} {s : Sl} {ll : List (List UInt8)} (h : NCh B w s ll) {b : Nat} {c : List Value} {t : TypeId} (hu : Upd w b c t w') (hb : b < B) : NCh B w' s ll := by
  obtain ⟨hs, h1, h2, h3⟩ := h.ex
  exact ⟨h.new, hs, h1, h2.upd hu (h.new.imp id fun h => by omega), fun i x l hx hl => (h3 i x l hx hl).upd hu hb⟩
theorem cut_spec {w : World} {x : Sl} {l : List UInt8} (hx : By w x l) (hl : l.length ≤ 1099511627776) :
    Ret Try.prog 9 [x.v].toArray w fun v w' => Ext w w' ∧ ((2048 < l.length ∧ v = .tuple #[.slice none 0 0, faultV 3 (-1)]) ∨ (l.length ≤ 2048 ∧ ∃ s : Sl, v = .tuple #[s.v, faultV 0 0] ∧ NIn w.heap.size w' s (endsS l l.length))) := by
  have hlen := hx.len
  refine cal_of_vc tabOk Try.func9 rfl (by kernel_rfl) 21 rfl (by simp) [0, 2, 3, 4, 6, 9, 12, 13, 14] ?_
  (conv => whnf)
  intro w1 b3 hb3
  have hz1 := hb3.size
  have hn1 := hb3.num
  (conv => whnf)
  refine condG_dec (fun h => ?_) (fun h => ?_)
  · (conv => whnf)
    refine (fault_pieces 3 (-1) w1).use ?_
    rintro v w2 ⟨rfl, he2⟩
    have hz2 := he2.size
    (conv => whnf)
    refine ⟨_, _, hb3.blk.ext he2, ?_⟩
    (conv => whnf)
    intro w3 hu
    have hb' := hu.blk (hb3.blk.ext he2).lt
    (conv => whnf)
    refine ⟨_, hb'.cell 0, _, hb'.cell 1, ?_⟩
    exact ⟨(hb3.ext.trans he2).trans' (hu.below (by omega)), .inl ⟨by omega, rfl⟩⟩
  (conv => whnf)
  intro w2 b4 hb4
  have hz2 := hb4.size
  have hn2 := hb4.num
  (conv => whnf)
  refine (each_spec x).use ?_
  rintro v w3 ⟨be, rfl, hbe⟩
  have hz3 := hbe.size
  have hn3 := hbe.num
  (conv => whnf)
  refine range_vc tabOk rfl (by (conv => whnf)) (each_iter (l := l) (x := x) (by omega) be) ?_ rfl
    (fun k W => ∃ s : Sl, Blk W b4 [s.v] 24 ∧ NIn (be + 1) W s ((endsS l l.length).take k) ∧ Blk W b3 [iv 0, iv 0] 26 ∧ Blk W be [x.v] 22 ∧ Ext w W) (fun _ _ => False) ?_ ?_ ?_ ?_ ?_ ?_ ?_
  · intro y hy
    obtain ⟨p, _, rfl⟩ := List.mem_map.1 hy
    rfl
  · rintro k W W' ⟨s, h1, h2, h3, h4, h6⟩ ht
    exact ⟨s, h1.tw ht, ⟨h2.row.twb ht, h2.new⟩, h3.tw ht, h4.tw ht, Below.tw h6 ht (by omega)⟩
  · exact fun _ _ _ h => h.elim
  · rintro k W ⟨s, h1, h2, h3, h4, h6⟩
    exact ⟨h4, hx.ext h6⟩
  · exact ⟨⟨none, 0, 0⟩, (hb4.blk).ext hbe.ext, ⟨Row.nil _ _ _, .inl rfl⟩, (hb3.blk.ext hb4.ext).ext hbe.ext, hbe.blk, (hb3.ext.trans hb4.ext).trans hbe.ext⟩
  · rintro L k xs W hxs ⟨s, h1, h2, h3, h4, h6⟩
    rw [List.getElem?_map] at hxs
    obtain ⟨p, hp, rfl⟩ := Option.map_eq_some_iff.1 hxs
    (conv => whnf)
    refine ⟨rfl, Keep.refl _ _, ?_⟩
    intro W2 ht
    have hc : W2.cell? ⟨b4, 0, none⟩ = some s.v := (h1.tw ht).cell 0
    ((repeat ((conv => whnf); first | refine And.intro (by first | omega | assumption | exact rfl) ?_ | refine Exists.intro _ (And.intro (by assumption) ?_) | refine Exists.intro _ (Exists.intro _ (And.intro (by assumption) ?_)) | refine Exists.intro _ (And.intro (Blk.cel (by assumption) (by rfl)) ?_))); (conv => whnf))
    intro W3 b hb
    have hzW := ht.size
    have hzW3 := hb.size
    have hnW3 := hb.num
    have hz6 := h6.size
    have hsl := endsS_len l l.length
    have hpe : (endsS l l.length)[k]? = some (p.2 : Int) := by simp [endsS, hp]
    have hlt4 := h4.lt
    (conv => whnf)
    refine app_int (B := be + 1) (NIn.ext ⟨h2.row.twb ht, h2.new⟩ hb.ext) (by omega) hb.blk (by simp; omega) ?_
    intro s' W4 hs' hg hbl
    have k1 : Blk W4 b4 [s.v] 24 := ((h1.tw ht).ext hb.ext).mono hbl (by omega)
    (conv => whnf)
    refine ⟨_, _, k1, ?_⟩
    (conv => whnf)
    intro W5 hu
    (conv => whnf)
    refine ⟨?_, s', hu.blk k1.lt, ?_, ?_, ?_, ?_⟩
    · exact ((Keep.ext hb.ext).trans (Keep.grew ((h2.row.twb ht).ext hb.ext) hg)).trans (Keep.upd k1 hu)
    · rw [List.take_add_one, hpe]
      exact ⟨hs'.row.upd hu (hs'.new.imp id fun h => by omega), hs'.new⟩
    · exact (hu.other (by omega)).trans (((h3.tw ht).ext hb.ext).mono hbl (by omega))
    · exact (hu.other (by omega)).trans (((h4.tw ht).ext hb.ext).mono hbl (by omega))
    · exact Below.trans (Below.trans (Below.tw h6 ht (by omega)) ((hb.ext.mono (by omega)).trans (hbl.mono (by omega)))) (hu.below (by omega))
  · intro D W hD hDo hI
    obtain ⟨s, h1, h2, h3, h4, h6⟩ := hI
    have hc : W.cell? ⟨b4, 0, none⟩ = some s.v := h1.cell 0
    ((repeat ((conv => whnf); first | refine And.intro (by first | omega | assumption | exact rfl) ?_ | refine Exists.intro _ (And.intro (by assumption) ?_) | refine Exists.intro _ (Exists.intro _ (And.intro (by assumption) ?_)) | refine Exists.intro _ (And.intro (Blk.cel (by assumption) (by rfl)) ?_))); (conv => whnf))
    intro W1 hu
    have h3' := hu.blk h3.lt
    (conv => whnf)
    refine ⟨(hu.other (by omega)).trans hDo, ?_⟩
    intro W2 ht
    have h3'' := h3'.tw ht
    have e1 : Blk W2 b3 [iv 0, iv 0] 26 := h3''
    (conv => whnf)
    refine ⟨_, e1.cell 0, _, e1.cell 1, ?_⟩
    refine ⟨Below.tw (h6.trans' (hu.below (by omega))) ht (by omega), .inr ⟨by omega, s, rfl, ?_, h2.new.imp id fun h => by omega⟩⟩
    rw [List.take_of_length_le (by simp [endsS])] at h2
    exact (h2.row.upd hu (h2.new.imp id fun h => by omega)).twb ht
  · intro D c W hD hDo hI
    exact hI.elim

theorem split_spec {w : World} {x : Sl} {l : List UInt8} (hx : By w x l) (hl : l.length ≤ 1099511627776) :
    Ret Try.prog 10 [x.v].toArray w fun v w' => Ext w w' ∧ ((2048 < l.length ∧ v = .tuple #[.slice none 0 0, faultV 3 (-1)]) ∨ (l.length ≤ 2048 ∧ ∃ s : Sl, v = .tuple #[s.v, faultV 0 0] ∧ NCh w.heap.size w' s (piecesS l))) := by
  have hlen := hx.len
  have hcap := hx.cap
  refine cal_of_vc tabOk Try.func10 rfl (by kernel_rfl) 25 rfl (by simp) [0, 1, 2, 3, 4, 5, 6, 9, 12, 13, 14] ?_
  (conv => whnf)
  intro w0 b1 hb1
  have hz0 := hb1.size
  have hn0 := hb1.num
  (conv => whnf)
  intro w1 b3 hb3
  have hz1 := hb3.size
  have hn1 := hb3.num
  have hc1 : w1.cell? ⟨b1, 0, none⟩ = some x.v := (hb1.blk.ext hb3.ext).cell 0
  ((repeat ((conv => whnf); first | refine And.intro (by first | omega | assumption | exact rfl) ?_ | refine Exists.intro _ (And.intro (by assumption) ?_) | refine Exists.intro _ (Exists.intro _ (And.intro (by assumption) ?_)) | refine Exists.intro _ (And.intro (Blk.cel (by assumption) (by rfl)) ?_))); (conv => whnf))
  refine condG_dec (fun h => ?_) (fun h => ?_)
  · (conv => whnf)
    refine (fault_pieces 3 (-1) w1).use ?_
    rintro v w2 ⟨rfl, he2⟩
    have hz2 := he2.size
    (conv => whnf)
    refine ⟨_, _, hb3.blk.ext he2, ?_⟩
    (conv => whnf)
    intro w3 hu
    have hb' := hu.blk (hb3.blk.ext he2).lt
    (conv => whnf)
    refine ⟨_, hb'.cell 0, _, hb'.cell 1, ?_⟩
    exact ⟨((hb1.ext.trans hb3.ext).trans he2).trans' (hu.below (by omega)), .inl ⟨by omega, rfl⟩⟩
  (conv => whnf)
  intro w2 b4 hb4
  have hz2 := hb4.size
  have hn2 := hb4.num
  have hc2 : w2.cell? ⟨b1, 0, none⟩ = some x.v := ((hb1.blk.ext hb3.ext).ext hb4.ext).cell 0
  ((repeat ((conv => whnf); first | refine And.intro (by first | omega | assumption | exact rfl) ?_ | refine Exists.intro _ (And.intro (by assumption) ?_) | refine Exists.intro _ (Exists.intro _ (And.intro (by assumption) ?_)) | refine Exists.intro _ (And.intro (Blk.cel (by assumption) (by rfl)) ?_))); (conv => whnf))
  refine (each_spec x).use ?_
  rintro v w3 ⟨be, rfl, hbe⟩
  have hz3 := hbe.size
  have hn3 := hbe.num
  (conv => whnf)
  refine range_vc tabOk rfl (by (conv => whnf)) (each_iter (l := l) (x := x) (by omega) be) ?_ rfl
    (fun k W => ∃ s : Sl, Blk W b4 [s.v] 29 ∧ NCh (be + 1) W s ((piecesS l).take k) ∧ Blk W b3 [iv 0, iv 0] 26 ∧ Blk W be [x.v] 22 ∧ Blk W b1 [x.v] 22 ∧ Ext w W) (fun _ _ => False) ?_ ?_ ?_ ?_ ?_ ?_ ?_
  · intro y hy
    obtain ⟨p, _, rfl⟩ := List.mem_map.1 hy
    rfl
  · rintro k W W' ⟨s, h1, h2, h3, h4, h5, h6⟩ ht
    exact ⟨s, h1.tw ht, h2.tw ht, h3.tw ht, h4.tw ht, h5.tw ht, Below.tw h6 ht (by omega)⟩
  · exact fun _ _ _ h => h.elim
  · rintro k W ⟨s, h1, h2, h3, h4, h5, h6⟩
    exact ⟨h4, hx.ext h6⟩
  · exact ⟨⟨none, 0, 0⟩, (hb4.blk).ext hbe.ext, NCh.nil _ _, (hb3.blk.ext hb4.ext).ext hbe.ext, hbe.blk, (((hb1.blk.ext hb3.ext).ext hb4.ext)).ext hbe.ext, ((hb1.ext.trans hb3.ext).trans hb4.ext).trans hbe.ext⟩
  · rintro L k xs W hxs ⟨s, h1, h2, h3, h4, h5, h6⟩
    rw [List.getElem?_map] at hxs
    obtain ⟨p, hp, rfl⟩ := Option.map_eq_some_iff.1 hxs
    have hpin := cutS_in l l.length p (List.mem_of_getElem? hp)
    have hsl := cutS_len l l.length
    (conv => whnf)
    refine ⟨rfl, Keep.refl _ _, ?_⟩
    intro W2 ht
    (conv => whnf)
    refine draw_vc tabOk mixed [5, 6] [0, 1, 2, 3, 4, 5, 6, 7, 8] (by kernel_rfl) ?_
    intro W3 hd
    have hed := hd.ext
    have hc : W3.cell? ⟨b4, 0, none⟩ = some s.v := ((h1.tw ht).ext hed).cell 0
    have hc' : W3.cell? ⟨b1, 0, none⟩ = some x.v := ((h5.tw ht).ext hed).cell 0
    have hzW := ht.size
    have hzd := hed.size
    ((repeat ((conv => whnf); first | refine And.intro (by first | omega | assumption | exact rfl) ?_ | refine Exists.intro _ (And.intro (by assumption) ?_) | refine Exists.intro _ (Exists.intro _ (And.intro (by assumption) ?_)) | refine Exists.intro _ (And.intro (Blk.cel (by assumption) (by rfl)) ?_))); (conv => whnf))
    have hxW := hx.ext (Below.ext (Below.tw h6 ht (by omega)) hed (by have := h6.size; omega))
    refine (clone_bytes (hxW.sub hpin.1 hpin.2) (by simp; omega)).use ?_
    rintro v W4 ⟨c, rfl, hcp, he4⟩
    have hz4 := he4.size
    have hlt4 := h4.lt
    (conv => whnf)
    refine ⟨he4, ?_⟩
    (conv => whnf)
    intro W5 b hb
    have hz5 := hb.size
    have hn5 := hb.num
    (conv => whnf)
    refine ⟨hb.ext, ?_⟩
    (conv => whnf)
    refine app_sl (B := be + 1) (l := partOf l p) (((h2.tw ht).ext hed).ext (he4.trans hb.ext)) ⟨(hcp.row.ext hb.ext), hcp.new.imp id fun h => by omega⟩ (by omega) hb.blk (by simp [piecesS]; omega) ?_
    intro s' W6 hs' hg hbl
    have he5 := (hed.trans he4).trans hb.ext
    have k1 : Blk W6 b4 [s.v] 29 := ((h1.tw ht).ext he5).mono hbl (by omega)
    have hkg : Keep w3.heap.size W5 W6 := by
      obtain ⟨hh, _, hr, _⟩ := (((h2.tw ht).ext hed).ext (he4.trans hb.ext)).ex
      exact Keep.grew hr hg
    (conv => whnf)
    refine ⟨_, _, k1, ?_⟩
    (conv => whnf)
    intro W7 hu
    (conv => whnf)
    refine ⟨?_, s', hu.blk k1.lt, ?_, ?_, ?_, ?_, ?_⟩
    · exact ((Keep.ext he5).trans hkg).trans (Keep.upd k1 hu)
    · rw [show List.take (k + 1) (piecesS l) = List.take k (piecesS l) ++ [partOf l p] by simp [piecesS, List.take_add_one, hp]]
      exact hs'.upd hu (by omega)
    · exact (hu.other (by omega)).trans (((h3.tw ht).ext he5).mono hbl (by omega))
    · exact (hu.other (by omega)).trans (((h4.tw ht).ext he5).mono hbl (by omega))
    · exact (hu.other (by omega)).trans (((h5.tw ht).ext he5).mono hbl (by omega))
    · exact Below.trans (Below.trans (Below.tw h6 ht (by omega)) ((he5.mono (by omega)).trans (hbl.mono (by omega)))) (hu.below (by omega))
  · intro D W hD hDo hI
    obtain ⟨s, h1, h2, h3, h4, h5, h6⟩ := hI
    have hc : W.cell? ⟨b4, 0, none⟩ = some s.v := h1.cell 0
    ((repeat ((conv => whnf); first | refine And.intro (by first | omega | assumption | exact rfl) ?_ | refine Exists.intro _ (And.intro (by assumption) ?_) | refine Exists.intro _ (Exists.intro _ (And.intro (by assumption) ?_)) | refine Exists.intro _ (And.intro (Blk.cel (by assumption) (by rfl)) ?_))); (conv => whnf))
    intro W1 hu
    have h3' := hu.blk h3.lt
    (conv => whnf)
    refine ⟨(hu.other (by omega)).trans hDo, ?_⟩
    intro W2 ht
    have h3'' := h3'.tw ht
    have e1 : Blk W2 b3 [iv 0, iv 0] 26 := h3''
    (conv => whnf)
    refine ⟨_, e1.cell 0, _, e1.cell 1, ?_⟩
    refine ⟨Below.tw (h6.trans' (hu.below (by omega))) ht (by omega), .inr ⟨by omega, s, rfl, ?_⟩⟩
    rw [List.take_of_length_le (by simp [piecesS])] at h2
    exact ((h2.upd hu (by omega)).tw ht).mono (by omega)
  · intro D c W hD hDo hI
    exact hI.elim
end Go.Proofs.Ytkmnncajfhamhaa
