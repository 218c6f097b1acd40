/-
  Text files, the reference: the characters of a file, its lines.
-/
import Derived.Test.YtgnaojphgdaalaaDoorTxtN
namespace Go.Proofs.YtgnaojphgdaalaaDoor
open Go Go.RowKit

theorem take_two {b : List UInt8} (h : 2 ≤ b.length) (x y : UInt8) : b.take 2 = [x, y] ↔ at8 b 0 = x.toNat ∧ at8 b 1 = y.toNat := by
  rcases b with _ | ⟨b0, _ | ⟨b1, r⟩⟩
  · simp at h
  · simp at h
  · simp [at8, UInt8.toNat_inj]
section
variable {V W : World}
set_option maxRecDepth 100000 in
set_option maxHeartbeats 1000000 in
theorem fileChars_ref (hV : Sub V W) {s : Sl} {b : List UInt8} (hs : Byt V s b) (hl : b.length ≤ 1000000000) : Ret Tryd.prog 31 [s.v].toArray W (NumK W V (fileC b)) := by
  have H := Rel.start hV
  have hlen := hs.len
  have hcap := hs.cap
  have hd2 : (b.drop 2).length = b.length - 2 := List.length_drop
  have c0 : ∀ h : 0 < b.length, _ := fun h => hs.cell8 h
  have c1 : ∀ h : 1 < b.length, _ := fun h => hs.cell8 h
  refine cal_of_sem tabOk Tryd.func31 rfl (by kernel_rfl) 105 rfl (by simp) [0, 2, 3, 4, 5, 6, 7, 8, 9, 10, 11, 32, 40, 62, 70, 77, 86, 93] ?_
  refine SemC.seqGo tabOk ?_
  (first | (refine H.wg ?_; clear H; intros; rename_i w H; constructor) | refine wk ?_)
  refine SemC.seqCut tabOk (fun _ : Unit => [(0, s.v)]) (fun _ w' => u16Of true b = none ∧ Rel W V [] V w') ?_ ?_
  · by_cases hb2 : 2 ≤ b.length
    rotate_left
    · have hu : u16Of true b = none := by unfold u16Of; rw [if_neg (fun h => hb2 h.1)]
      (first | (refine H.wg ?_; clear H; intros; rename_i w H; constructor) | refine wk ?_)
      exact ⟨(), (by repeat (first | exact trivial | refine ⟨rfl, ?_⟩)), hu, H⟩
    obtain ⟨p0, c0⟩ := c0 (by omega)
    obtain ⟨_, c1⟩ := c1 (by omega)
    by_cases he : 2 ≤ b.length ∧ b.length % 2 = 0 ∧ at8 b 0 = 254 ∧ at8 b 1 = 255
    · obtain ⟨h1, h2, h3, h4⟩ := he
      have he : 2 ≤ b.length ∧ b.length % 2 = 0 ∧ at8 b 0 = 254 ∧ at8 b 1 = 255 := ⟨h1, h2, h3, h4⟩
      · have h2' := he.1
        have e2 : u16Of true b = unitsD (unitsOf true (b.drop 2)) := by unfold u16Of; rw [if_pos ⟨he.1, he.2.1, (take_two he.1 _ _).2 (by simpa using he.2.2)⟩]
        (first | (refine H.wg ?_; clear H; intros; rename_i w H; constructor) | refine wk ?_)
        refine (units_ref H.data (hs.tl (n := 1) (fun _ => rfl) (k := 2) h2') (by omega) true).use ?_
        rintro v w ⟨V3, r3, hV3, K, rfl, hr3⟩
        (have hKb := K.base; replace H := H.call0 K)
        (first | (refine H.wg ?_; clear H; intros; rename_i w H; constructor) | refine wk ?_)
        refine (fromUnits_ref H.data hr3 (by rw [show unitsOf true (b.drop 2) = (List.range ((b.drop 2).length / 2)).map (unitAt true (b.drop 2)) from rfl, List.length_map, List.length_range]; omega) (fun u hu => by
          obtain ⟨k, _, rfl⟩ := List.mem_map.1 hu
          exact unitAt_lt _ _ _)).use ?_
        rintro v w ⟨V4, r4, hV4, K, hres⟩
        (have hKb := K.base; replace H := H.call0 K)
        cases hd : unitsD (unitsOf true (b.drop 2)) with
        | none =>
          rw [hd] at hres e2
          obtain rfl := hres
          (first | (refine H.wg ?_; clear H; intros; rename_i w H; constructor) | refine wk ?_)
          exact ⟨(), (by repeat (first | exact trivial | refine ⟨rfl, ?_⟩)), e2, (H.less (Sub.refl _) (hV3.trans hV4))⟩
        | some cs =>
          rw [hd] at hres e2
          obtain ⟨rfl, hr⟩ := hres
          have ef : fileC b = (cs, 2) := by unfold fileC; rw [e2]
          rw [ef]
          (first | (refine H.wg ?_; clear H; intros; rename_i w H; constructor) | refine wk ?_)
          exact ⟨V4, r4, (hV3.trans hV4), H.sx, rfl, hr⟩
    · have hu : u16Of true b = none := by
        unfold u16Of
        rw [if_neg (fun h => he ⟨h.1, h.2.1, by simpa using (take_two h.1 _ _).1 h.2.2⟩)]
      have q1 := hb2
      by_cases q2 : b.length % 2 = 0
      rotate_left
      · (first | (refine H.wg ?_; clear H; intros; rename_i w H; constructor) | refine wk ?_)
        exact ⟨(), (by repeat (first | exact trivial | refine ⟨rfl, ?_⟩)), hu, H⟩
      by_cases q3 : at8 b 0 = 254
      rotate_left
      · (first | (refine H.wg ?_; clear H; intros; rename_i w H; constructor) | refine wk ?_)
        exact ⟨(), (by repeat (first | exact trivial | refine ⟨rfl, ?_⟩)), hu, H⟩
      have q4 : ¬ at8 b 1 = 255 := fun h => he ⟨q1, q2, q3, h⟩
      (first | (refine H.wg ?_; clear H; intros; rename_i w H; constructor) | refine wk ?_)
      exact ⟨(), (by repeat (first | exact trivial | refine ⟨rfl, ?_⟩)), hu, H⟩
  rintro _ w ⟨hu1, H⟩
  refine SemC.seqCut tabOk (fun _ : Unit => [(0, s.v)]) (fun _ w' => u16Of false b = none ∧ Rel W V [] V w') ?_ ?_
  · by_cases hb2 : 2 ≤ b.length
    rotate_left
    · have hu : u16Of false b = none := by unfold u16Of; rw [if_neg (fun h => hb2 h.1)]
      (first | (refine H.wg ?_; clear H; intros; rename_i w H; constructor) | refine wk ?_)
      exact ⟨(), (by repeat (first | exact trivial | refine ⟨rfl, ?_⟩)), hu, H⟩
    obtain ⟨p0, c0⟩ := c0 (by omega)
    obtain ⟨_, c1⟩ := c1 (by omega)
    by_cases he : 2 ≤ b.length ∧ b.length % 2 = 0 ∧ at8 b 0 = 255 ∧ at8 b 1 = 254
    · obtain ⟨h1, h2, h3, h4⟩ := he
      have he : 2 ≤ b.length ∧ b.length % 2 = 0 ∧ at8 b 0 = 255 ∧ at8 b 1 = 254 := ⟨h1, h2, h3, h4⟩
      · have h2' := he.1
        have e2 : u16Of false b = unitsD (unitsOf false (b.drop 2)) := by unfold u16Of; rw [if_pos ⟨he.1, he.2.1, (take_two he.1 _ _).2 (by simpa using he.2.2)⟩]
        (first | (refine H.wg ?_; clear H; intros; rename_i w H; constructor) | refine wk ?_)
        refine (units_ref H.data (hs.tl (n := 1) (fun _ => rfl) (k := 2) h2') (by omega) false).use ?_
        rintro v w ⟨V3, r3, hV3, K, rfl, hr3⟩
        (have hKb := K.base; replace H := H.call0 K)
        (first | (refine H.wg ?_; clear H; intros; rename_i w H; constructor) | refine wk ?_)
        refine (fromUnits_ref H.data hr3 (by rw [show unitsOf false (b.drop 2) = (List.range ((b.drop 2).length / 2)).map (unitAt false (b.drop 2)) from rfl, List.length_map, List.length_range]; omega) (fun u hu => by
          obtain ⟨k, _, rfl⟩ := List.mem_map.1 hu
          exact unitAt_lt _ _ _)).use ?_
        rintro v w ⟨V4, r4, hV4, K, hres⟩
        (have hKb := K.base; replace H := H.call0 K)
        cases hd : unitsD (unitsOf false (b.drop 2)) with
        | none =>
          rw [hd] at hres e2
          obtain rfl := hres
          (first | (refine H.wg ?_; clear H; intros; rename_i w H; constructor) | refine wk ?_)
          exact ⟨(), (by repeat (first | exact trivial | refine ⟨rfl, ?_⟩)), e2, (H.less (Sub.refl _) (hV3.trans hV4))⟩
        | some cs =>
          rw [hd] at hres e2
          obtain ⟨rfl, hr⟩ := hres
          have ef : fileC b = (cs, 3) := by unfold fileC; rw [hu1, e2]
          rw [ef]
          (first | (refine H.wg ?_; clear H; intros; rename_i w H; constructor) | refine wk ?_)
          exact ⟨V4, r4, (hV3.trans hV4), H.sx, rfl, hr⟩
    · have hu : u16Of false b = none := by
        unfold u16Of
        rw [if_neg (fun h => he ⟨h.1, h.2.1, by simpa using (take_two h.1 _ _).1 h.2.2⟩)]
      have q1 := hb2
      by_cases q2 : b.length % 2 = 0
      rotate_left
      · (first | (refine H.wg ?_; clear H; intros; rename_i w H; constructor) | refine wk ?_)
        exact ⟨(), (by repeat (first | exact trivial | refine ⟨rfl, ?_⟩)), hu, H⟩
      by_cases q3 : at8 b 0 = 255
      rotate_left
      · (first | (refine H.wg ?_; clear H; intros; rename_i w H; constructor) | refine wk ?_)
        exact ⟨(), (by repeat (first | exact trivial | refine ⟨rfl, ?_⟩)), hu, H⟩
      have q4 : ¬ at8 b 1 = 254 := fun h => he ⟨q1, q2, q3, h⟩
      (first | (refine H.wg ?_; clear H; intros; rename_i w H; constructor) | refine wk ?_)
      exact ⟨(), (by repeat (first | exact trivial | refine ⟨rfl, ?_⟩)), hu, H⟩
  rintro _ w ⟨hu2, H⟩
  have ef : fileC b = fileC8 b := by unfold fileC; rw [hu1, hu2]
  rw [ef]
  unfold fileC8
  refine SemC.go tabOk ?_
  (first | (refine H.wg ?_; clear H; intros; rename_i w H; constructor) | refine wk ?_)
  refine (chars_ref H.data hs hl).use ?_
  rintro v w ⟨V3, r, hV3, K, hres⟩
  (have hKb := K.base; replace H := H.call0 K)
  cases hc : chars b with
  | some cs =>
    rw [hc] at hres
    obtain ⟨rfl, hr⟩ := hres
    have hrl := hr.len
    cases cs with
    | nil =>
      rw [List.length_nil] at hrl
      (first | (refine H.wg ?_; clear H; intros; rename_i w H; constructor) | refine wk ?_)
      exact ⟨V3, r, hV3, H.sx, rfl, hr⟩
    | cons c cs =>
      rw [List.length_cons] at hrl
      obtain ⟨p0, c0⟩ := hr.at1 (g := fun u : Nat => iv (u : Int)) (fun _ => rfl) (show 0 < (c :: cs).length by simp)
      rw [List.getElem_cons_zero] at c0
      dsimp only
      have hcl := isCh_lt ((chars_iff.1 hc).1 c (by simp))
      obtain ⟨z, hz⟩ : ∃ z : Int, z = (c : Int) := ⟨_, rfl⟩
      rw [← hz] at c0
      by_cases h : c = 65279
      · rw [if_pos (by rw [h]; rfl)]
        (first | (refine H.wg ?_; clear H; intros; rename_i w H; constructor) | refine wk ?_)
        have ht := hr.tl (n := 1) (fun _ => rfl) (k := 1) (by simp)
        exact ⟨V3, _, hV3, H.sx, rfl, ht⟩
      · rw [if_neg (fun e => h (by simpa using e))]
        (first | (refine H.wg ?_; clear H; intros; rename_i w H; constructor) | refine wk ?_)
        exact ⟨V3, r, hV3, H.sx, rfl, hr⟩
  | none =>
    rw [hc] at hres
    obtain rfl := hres
    dsimp only
    (first | (refine H.wg ?_; clear H; intros; rename_i w H; constructor) | refine wk ?_)
    replace H := H.rowNil 3 1
    refine loop_inv (S := Nat × Sl) tabOk [0, 2, 3, 4, 5, 6, 7, 8, 9, 32, 40, 62, 70, 77, 86] (fun q => [(11, iv q.1), (10, q.2.v)]) (fun q w' => q.1 ≤ b.length ∧ Rel W V [.row q.2 3 1 (((b.take q.1).map UInt8.toNat).flatMap naC)] V3 w') (fun q _ => b.length - q.1) (0, ⟨none, 0, 0⟩) ?_
    (conv => whnf)
    refine ⟨(by repeat (first | exact trivial | refine ⟨rfl, ?_⟩)), ⟨by omega, H⟩, ?_⟩
    clear H
    rintro ⟨k, r⟩ w ⟨hk, H⟩
    dsimp only at hk H ⊢
    by_cases hlt : k < b.length
    · obtain ⟨p0, d0⟩ := (hs.up hV3).at1 (g := bv) (fun _ => rfl) hlt
      have hkl : ((b.take k).map UInt8.toNat).length = k := by rw [List.length_map, List.length_take]; omega
      have hb256 := b[k].toNat_lt
      (first | (refine H.wg ?_; clear H; intros; rename_i w H; constructor) | refine wk ?_)
      refine Rel.app1_0 (f := naC) (l := ((b.take k).map UInt8.toNat)) (x := (b[k].toNat)) tabOk rfl rfl rfl rfl rfl (by decide) (fun _ => rfl) (List.all_eq_true.1 rfl) H (by show (((b.take k).map UInt8.toNat).length + 1) * 8 ≤ _; first | omega | (simp only [List.length_map, List.length_range]; omega)) (by first | omega | (simp only [List.length_map, List.length_range]; omega)) ?_
      clear H
      intro rn w H
      (first | (refine H.wg ?_; clear H; intros; rename_i w H; constructor) | refine wk ?_)
      refine ⟨(by repeat (first | exact trivial | refine ⟨rfl, ?_⟩)), (k + 1, rn), (by repeat (first | exact trivial | refine ⟨rfl, ?_⟩)), ⟨by dsimp only; omega, ?_⟩, by dsimp only; omega⟩
      dsimp only
      rw [List.take_succ_eq_append_getElem hlt, List.map_append]
      exact H.sx
    · rw [List.take_of_length_le (by omega)] at H
      obtain ⟨V4, hV4, H, hr⟩ := Rel.freezeF H (fun _ => rfl) (by decide)
      (first | (refine H.wg ?_; clear H; intros; rename_i w H; constructor) | refine wk ?_)
      exact ⟨V4, r, hV3.trans hV4, H.sx, rfl, hr⟩
theorem naC_set (K : List Nat) : ((K ++ [2]).flatMap naC).set K.length (iv 1) = (K ++ [1]).flatMap naC := by
  rw [List.flatMap_append, List.flatMap_append, List.set_append_right _ _ (by rw [flat_len (n := 1) (fun _ => rfl)]; omega), flat_len (n := 1) (fun _ => rfl), show K.length - K.length * 1 = 0 by omega]
  rfl
/-- two rows of numbers -/
structure TwoG (W V : World) (p : List Nat × List Nat) (v : Value) (w' : World) : Prop where
  ex : ∃ (V' : World) (r r' : Sl), Sub V V' ∧ Rel W V [] V' w' ∧ v = .tuple #[r.v, r'.v] ∧ SlF naC V' r p.1 ∧ SlF naC V' r' p.2
/-- lines, from a place on; a carriage return may have just gone by -/
def LinA (l O K rest : List Nat) (pend : Bool) : Prop :=
  if pend = true then ∃ O' K', O = O' ++ [10] ∧ K = K' ++ [2] ∧ lines l = (O' ++ (lines (13 :: rest)).1, K' ++ (lines (13 :: rest)).2)
  else lines l = (O ++ (lines rest).1, K ++ (lines rest).2)
theorem LinA.plain {l O K rest : List Nat} {pend : Bool} (h : LinA l O K rest pend) (hp : pend = false ∨ ∀ k, rest ≠ 10 :: k) : lines l = (O ++ (lines rest).1, K ++ (lines rest).2) := by
  unfold LinA at h
  cases pend with
  | false => simpa using h
  | true =>
    rw [if_pos rfl] at h
    obtain ⟨O', K', rfl, rfl, h⟩ := h
    rw [lines_cr (hp.resolve_left (by decide))] at h
    rw [h]
    simp
set_option maxRecDepth 100000 in
set_option maxHeartbeats 1000000 in
theorem lineEnds_ref (hV : Sub V W) {s : Sl} {l : List Nat} (hs : SlF naC V s l) (hl : l.length ≤ 1000000000) : Ret Tryd.prog 32 [s.v].toArray W (TwoG W V (lines l)) := by
  have H := Rel.start hV
  have hlen := hs.len
  refine cal_of_vc tabOk Tryd.func32 rfl (by kernel_rfl) 75 rfl (by simp) [0, 2, 3, 4, 5, 6, 10, 29, 39, 47, 62] ?_
  (first | (refine H.wg ?_; clear H; intros; rename_i w H; constructor) | refine wk ?_)
  replace H := H.rowNil 3 1
  replace H := H.rowNil 3 1
  refine loop_inv (S := Nat × Sl × Sl × List Nat × List Nat × Bool) tabOk [0, 2, 3] (fun q => [(6, iv q.1), (4, q.2.1.v), (5, q.2.2.1.v)]) (fun q w' => q.1 ≤ l.length ∧ q.2.2.2.1.length ≤ q.1 ∧ q.2.2.2.2.1.length ≤ q.1 ∧ (q.2.2.2.2.2 = true ↔ ∃ h : q.1 - 1 < l.length, 0 < q.1 ∧ l[q.1 - 1] = 13) ∧ LinA l q.2.2.2.1 q.2.2.2.2.1 (l.drop q.1) q.2.2.2.2.2 ∧ Rel W V [.row q.2.1 3 1 (q.2.2.2.1.flatMap naC), .row q.2.2.1 3 1 (q.2.2.2.2.1.flatMap naC)] V w') (fun q _ => l.length - q.1) (0, ⟨none, 0, 0⟩, ⟨none, 0, 0⟩, [], [], false) ?_
  (conv => whnf)
  refine ⟨(by repeat (first | exact trivial | refine ⟨rfl, ?_⟩)), ⟨by omega, Nat.le_refl _, Nat.le_refl _, ⟨fun h => by simp at h, fun ⟨_, h, _⟩ => by dsimp only at h; omega⟩, by unfold LinA; simp, H⟩, ?_⟩
  clear H
  rintro ⟨p, r4, r5, O, K, pend⟩ w ⟨hp, hO, hK, hpe, hA, H⟩
  dsimp only at hp hO hK hpe hA H ⊢
  by_cases hlt : p < l.length
  · obtain ⟨p0, c0⟩ := hs.at1 (g := fun u : Nat => iv (u : Int)) (fun _ => rfl) hlt
    have hdr := List.drop_eq_getElem_cons hlt
    obtain ⟨c, hce⟩ : ∃ c, c = l[p] := ⟨_, rfl⟩
    rw [← hce] at c0 hdr
    have hpn : ∀ b : Bool, (b = true ↔ c = 13) → (b = true ↔ ∃ h : p + 1 - 1 < l.length, 0 < p + 1 ∧ l[p + 1 - 1] = 13) := fun b hb => by
      rw [hb, hce]
      simp [hlt]
    by_cases h13 : c = 13
    · subst h13
      have hpl := hA.plain (.inr (fun k e => by rw [hdr] at e; injection e with e1; cases e1))
      rw [hdr] at hpl
      (first | (refine H.wg ?_; clear H; intros; rename_i w H; constructor) | refine wk ?_)
      refine Rel.app1_1 (f := naC) (l := K) (x := 2) tabOk rfl rfl rfl rfl rfl (by decide) (fun _ => rfl) (List.all_eq_true.1 rfl) H (by show (K.length + 1) * 8 ≤ _; omega) (by omega) ?_
      clear H
      intro rk w H
      (first | (refine H.wg ?_; clear H; intros; rename_i w H; constructor) | refine wk ?_)
      refine Rel.app1_0 (f := naC) (l := O) (x := 10) tabOk rfl rfl rfl rfl rfl (by decide) (fun _ => rfl) (List.all_eq_true.1 rfl) H (by show (O.length + 1) * 8 ≤ _; first | omega | (simp only [List.length_map, List.length_range]; omega)) (by first | omega | (simp only [List.length_map, List.length_range]; omega)) ?_
      clear H
      intro rn w H
      (first | (refine H.wg ?_; clear H; intros; rename_i w H; constructor) | refine wk ?_)
      refine ⟨(by repeat (first | exact trivial | refine ⟨rfl, ?_⟩)), (p + 1, rn, rk, O ++ [10], K ++ [2], true), (by repeat (first | exact trivial | refine ⟨rfl, ?_⟩)), ⟨by dsimp only; omega, by dsimp only; rw [List.length_append, List.length_singleton]; omega, by dsimp only; first | omega | (rw [List.length_append, List.length_singleton]; omega), ?_, ?_, H.sx⟩, by dsimp only; omega⟩
      · exact hpn true (by simp)
      · unfold LinA
        rw [if_pos rfl]
        exact ⟨O, K, rfl, rfl, hpl⟩
    by_cases h10 : c = 10
    rotate_left
    · have hpl := hA.plain (.inr (fun k e => by rw [hdr] at e; injection e with e1; exact h10 e1))
      rw [hdr, lines_other h10 h13] at hpl
      (first | (refine H.wg ?_; clear H; intros; rename_i w H; constructor) | refine wk ?_)
      refine Rel.app1_0 (f := naC) (l := O) (x := c) tabOk rfl rfl rfl rfl rfl (by decide) (fun _ => rfl) (List.all_eq_true.1 rfl) H (by show (O.length + 1) * 8 ≤ _; first | omega | (simp only [List.length_map, List.length_range]; omega)) (by first | omega | (simp only [List.length_map, List.length_range]; omega)) ?_
      clear H
      intro rn w H
      (first | (refine H.wg ?_; clear H; intros; rename_i w H; constructor) | refine wk ?_)
      refine ⟨(by repeat (first | exact trivial | refine ⟨rfl, ?_⟩)), (p + 1, rn, r5, O ++ [c], K, false), (by repeat (first | exact trivial | refine ⟨rfl, ?_⟩)), ⟨by dsimp only; omega, by dsimp only; rw [List.length_append, List.length_singleton]; omega, by dsimp only; first | omega | (rw [List.length_append, List.length_singleton]; omega), ?_, ?_, H.sx⟩, by dsimp only; omega⟩
      · exact hpn false (by simp [h13])
      · unfold LinA
        rw [if_neg (by simp), hpl]
        simp
    subst h10
    cases pend with
    | false =>
      have hpl := hA.plain (.inl rfl)
      rw [hdr, lines_lf] at hpl
      have hno : ∀ h : 0 < p, l[p - 1] ≠ 13 := fun h e => by
        have := hpe.2 ⟨by omega, h, e⟩
        cases this
      by_cases hp0 : 0 < p
      · obtain ⟨_, c1⟩ := hs.at1 (g := fun u : Nat => iv (u : Int)) (fun _ => rfl) (show p - 1 < l.length by omega)
        have hno := hno hp0
        obtain ⟨y, hy⟩ : ∃ y, y = l[p - 1] := ⟨_, rfl⟩
        rw [← hy] at c1 hno
        rw [show p - 1 = ((p : Int) - 1).toNat by omega] at c1
        (first | (refine H.wg ?_; clear H; intros; rename_i w H; constructor) | refine wk ?_)
        refine Rel.app1_1 (f := naC) (l := K) (x := 0) tabOk rfl rfl rfl rfl rfl (by decide) (fun _ => rfl) (List.all_eq_true.1 rfl) H (by show (K.length + 1) * 8 ≤ _; omega) (by omega) ?_
        clear H
        intro rk w H
        (first | (refine H.wg ?_; clear H; intros; rename_i w H; constructor) | refine wk ?_)
        refine Rel.app1_0 (f := naC) (l := O) (x := 10) tabOk rfl rfl rfl rfl rfl (by decide) (fun _ => rfl) (List.all_eq_true.1 rfl) H (by show (O.length + 1) * 8 ≤ _; first | omega | (simp only [List.length_map, List.length_range]; omega)) (by first | omega | (simp only [List.length_map, List.length_range]; omega)) ?_
        clear H
        intro rn w H
        (first | (refine H.wg ?_; clear H; intros; rename_i w H; constructor) | refine wk ?_)
        refine ⟨(by repeat (first | exact trivial | refine ⟨rfl, ?_⟩)), (p + 1, rn, rk, O ++ [10], K ++ [0], false), (by repeat (first | exact trivial | refine ⟨rfl, ?_⟩)), ⟨by dsimp only; omega, by dsimp only; rw [List.length_append, List.length_singleton]; omega, by dsimp only; first | omega | (rw [List.length_append, List.length_singleton]; omega), ?_, ?_, H.sx⟩, by dsimp only; omega⟩
        · exact hpn false (by simp)
        · unfold LinA
          rw [if_neg (by simp), hpl]
          simp
      · (first | (refine H.wg ?_; clear H; intros; rename_i w H; constructor) | refine wk ?_)
        refine Rel.app1_1 (f := naC) (l := K) (x := 0) tabOk rfl rfl rfl rfl rfl (by decide) (fun _ => rfl) (List.all_eq_true.1 rfl) H (by show (K.length + 1) * 8 ≤ _; omega) (by omega) ?_
        clear H
        intro rk w H
        (first | (refine H.wg ?_; clear H; intros; rename_i w H; constructor) | refine wk ?_)
        refine Rel.app1_0 (f := naC) (l := O) (x := 10) tabOk rfl rfl rfl rfl rfl (by decide) (fun _ => rfl) (List.all_eq_true.1 rfl) H (by show (O.length + 1) * 8 ≤ _; first | omega | (simp only [List.length_map, List.length_range]; omega)) (by first | omega | (simp only [List.length_map, List.length_range]; omega)) ?_
        clear H
        intro rn w H
        (first | (refine H.wg ?_; clear H; intros; rename_i w H; constructor) | refine wk ?_)
        refine ⟨(by repeat (first | exact trivial | refine ⟨rfl, ?_⟩)), (p + 1, rn, rk, O ++ [10], K ++ [0], false), (by repeat (first | exact trivial | refine ⟨rfl, ?_⟩)), ⟨by dsimp only; omega, by dsimp only; rw [List.length_append, List.length_singleton]; omega, by dsimp only; first | omega | (rw [List.length_append, List.length_singleton]; omega), ?_, ?_, H.sx⟩, by dsimp only; omega⟩
        · exact hpn false (by simp)
        · unfold LinA
          rw [if_neg (by simp), hpl]
          simp
    | true =>
      obtain ⟨_, hp0, h13'⟩ := hpe.1 rfl
      unfold LinA at hA
      rw [if_pos rfl] at hA
      obtain ⟨O', K', rfl, rfl, hA⟩ := hA
      rw [hdr, lines_both] at hA
      obtain ⟨_, c1⟩ := hs.at1 (g := fun u : Nat => iv (u : Int)) (fun _ => rfl) (show p - 1 < l.length by omega)
      rw [h13', show p - 1 = ((p : Int) - 1).toNat by omega] at c1
      have hrk := H.rowLen (i := 1) rfl (fun _ => rfl) (by decide)
      rw [List.length_append, List.length_singleton] at hrk hO hK
      have hp5 : Plain r5.a := (H.slfAt (i := 1) rfl (fun _ => rfl) (by decide)).cells.1 (by simp [naC])
      (first | (refine H.wg ?_; clear H; intros; rename_i w H; constructor) | refine wk ?_)
      refine Rel.stRow (i := 1) H rfl K'.length (by omega) rfl (by show aoff r5.a + (((r5.len : Nat) : Int) - 1).toNat = _; omega) ?_
      clear H
      intro w H
      simp only [List.set_cons_succ, List.set_cons_zero] at H
      rw [naC_set] at H
      (first | (refine H.wg ?_; clear H; intros; rename_i w H; constructor) | refine wk ?_)
      refine ⟨(by repeat (first | exact trivial | refine ⟨rfl, ?_⟩)), (p + 1, r4, r5, O' ++ [10], K' ++ [1], false), (by repeat (first | exact trivial | refine ⟨rfl, ?_⟩)), ⟨by dsimp only; omega, by dsimp only; rw [List.length_append, List.length_singleton]; omega, by dsimp only; rw [List.length_append, List.length_singleton]; omega, hpn false (by simp), ?_, H.sx⟩, by dsimp only; omega⟩
      unfold LinA
      rw [if_neg (by simp), hA]
      simp
  · have hdr : l.drop p = [] := List.drop_of_length_le (by omega)
    have hpl := hA.plain (.inr (fun k e => by rw [hdr] at e; cases e))
    rw [hdr, show lines [] = ([], []) from rfl, List.append_nil, List.append_nil] at hpl
    rw [hpl]
    obtain ⟨V4, hV4, H, hr⟩ := Rel.freezeF H (fun _ => rfl) (by decide)
    obtain ⟨V5, hV5, H, hr'⟩ := Rel.freezeF H (fun _ => rfl) (by decide)
    (first | (refine H.wg ?_; clear H; intros; rename_i w H; constructor) | refine wk ?_)
    exact ⟨V5, r4, r5, hV4.trans hV5, H.sx, rfl, hr.up hV5, hr'⟩
end
end Go.Proofs.YtgnaojphgdaalaaDoor
namespace Go.Proofs.YtgnaojphgdaalaaDoor
open Go Go.RowKit

section
variable {V W : World}
theorem Rel.appBz {w0 V0 V w : World} {own : List Res} {s x : Sl} {xs ys : List UInt8} (H : Rel w0 V0 (.row s 5 1 (xs.flatMap byC) :: own) V w) (hx : Byt V x ys) (hb : xs.length + ys.length ≤ 1099511627776) {ty : TypeId} {k : Value → World → Prop}
    (hk : ∀ s' w', Rel w0 V0 (.row s' 5 1 ((xs ++ ys).flatMap byC) :: own) V w' → k s'.v w') : SemOk Tryd.prog (Builtin.append_ #[22, 22] ty #[s.v, x.v]) w k := by
  have hl := H.rowLen (i := 0) rfl (fun _ => rfl) (by decide)
  have hxl := hx.len
  refine Rel.appAt tabOk rfl rfl rfl rfl rfl (by decide) H (i := 0) rfl (hx.up H.data).cells (by rw [flat_len (n := 1) (fun _ => rfl), hxl]) flat_by_one (by rw [hl, hxl]; simp; omega) (by rw [hl, hxl]; omega) ?_
  intro s' w' H' _
  refine hk s' w' ?_
  rw [List.flatMap_append]
  exact H'
theorem ub_snoc (big : Bool) (l : List Nat) (u : Nat) : (l ++ [u]).flatMap (unB big) = l.flatMap (unB big) ++ unB big u := by rw [List.flatMap_append, List.flatMap_singleton]
theorem unB_take (big : Bool) (us : List Nat) (k : Nat) : ((us.take k).flatMap (unB big)).length ≤ 2 * k := by
  have : ∀ l : List Nat, (l.flatMap (unB big)).length = 2 * l.length := fun l => by
    induction l with
    | nil => rfl
    | cons c l ih => rw [List.flatMap_cons, List.length_append, List.length_cons, unB_len]; omega
  rw [this, List.length_take]
  omega
theorem u16c_lt {c : Nat} (h : isCh c) : ∀ u ∈ u16c c, u < 65536 := by
  intro u hu
  have := isCh_lt h
  unfold u16c at hu
  split at hu
  · rw [List.mem_singleton.1 hu]; omega
  · simp only [List.mem_cons, List.not_mem_nil, or_false] at hu
    omega
set_option maxRecDepth 100000 in
set_option maxHeartbeats 2000000 in
theorem charBytes_ref (hV : Sub V W) {s : Sl} {cs : List Nat} (hs : SlF naC V s cs) (hl : cs.length ≤ 10000000) (hc : ∀ c ∈ cs, isCh c) {e : Nat} (he : e < 5) : Ret Tryd.prog 45 [s.v, iv (e : Int)].toArray W (EncR W V (encC e cs)) := by
  have H := Rel.start hV
  have hlen := hs.len
  have hcase : e = 0 ∨ e = 1 ∨ e = 2 ∨ e = 3 ∨ e = 4 := by omega
  refine cal_of_vc tabOk Tryd.func45 rfl (by kernel_rfl) 103 rfl (by simp) [0, 1, 4, 5, 6, 7, 8, 9, 10, 12, 17, 22, 29, 37, 43, 45, 54, 67, 71] ?_
  rcases hcase with rfl | rfl | rfl | rfl | rfl
  · replace H := H.rowNil 5 1
    have H0 : Rel W V [.row ⟨none, 0, 0⟩ 5 1 (([] : List UInt8).flatMap byC)] V W := H
    clear H
    have H := H0
    clear H0
    rw [show encC 0 cs = some ([] ++ cs.flatMap u8c) from rfl]
    (first | (refine H.wg ?_; clear H; intros; rename_i w H; constructor) | refine wk ?_)
    refine loop_inv (S := Nat × Sl) tabOk [0, 1, 12, 17, 22] (fun k => [(7, iv k.1), (6, k.2.v)]) (fun k w' => k.1 ≤ cs.length ∧ ∃ V3, Sub V V3 ∧ Rel W V [.row k.2 5 1 (([] ++ (cs.take k.1).flatMap u8c).flatMap byC)] V3 w') (fun k _ => cs.length - k.1) (0, ⟨none, 0, 0⟩) ?_
    (conv => whnf)
    refine ⟨(by repeat (first | exact trivial | refine ⟨rfl, ?_⟩)), ⟨by omega, V, Sub.refl _, by rw [List.take_zero, List.flatMap_nil, List.append_nil]; exact H⟩, ?_⟩
    clear H
    rintro ⟨k, r⟩ w ⟨hk, V3, hV3, H⟩
    dsimp only at hk H ⊢
    have hlu := u8_take cs k
    by_cases hlt : k < cs.length
    · obtain ⟨p0, c0⟩ := (hs.up hV3).at1 (g := fun u : Nat => iv (u : Int)) (fun _ => rfl) hlt
      (first | (refine H.wg ?_; clear H; intros; rename_i w H; constructor) | refine wk ?_)
      refine (utf8_ref H.data (hc _ (List.getElem_mem hlt))).use ?_
      rintro v w ⟨V4, r4, hV4, K, rfl, hr4⟩
      (have hKb := K.base; replace H := H.call0 K)
      have hu4 := u8n_le cs[k]
      (first | (refine H.wg ?_; clear H; intros; rename_i w H; constructor) | refine wk ?_)
      refine Rel.appBz H hr4 (by rw [List.length_append, u8c_len]; simp only [List.length_cons, List.length_nil]; omega) ?_
      clear H
      intro rn w H
      (first | (refine H.wg ?_; clear H; intros; rename_i w H; constructor) | refine wk ?_)
      refine ⟨(by repeat (first | exact trivial | refine ⟨rfl, ?_⟩)), (k + 1, rn), (by repeat (first | exact trivial | refine ⟨rfl, ?_⟩)), ⟨by dsimp only; omega, V4, hV3.trans hV4, ?_⟩, by dsimp only; omega⟩
      dsimp only
      rw [List.take_succ_eq_append_getElem hlt, u8_snoc, ← List.append_assoc]
      exact H.sx
    · rw [List.take_of_length_le (by omega)] at H
      obtain ⟨V4, hV4, H, hr⟩ := Rel.freezeF H (fun _ => rfl) (by decide)
      (first | (refine H.wg ?_; clear H; intros; rename_i w H; constructor) | refine wk ?_)
      exact ⟨V4, r, hV3.trans hV4, H.sx, rfl, hr⟩
  · replace H := H.rowNil 5 1
    (first | (refine H.wh ?_; clear H; intros; rename_i w H; constructor) | refine wk ?_)
    ((first | refine Rel.nwD H ?_ | refine Rel.nw H ?_); clear H; intro w b1 H)
    replace H := H.blkEq (c' := ([239, 187, 191] : List UInt8).flatMap byC) rfl
    replace H := H.toRow (n := 3) (e := 5) (sz := 1) rfl (by simp [maxLen])
    (first | (refine H.wg ?_; clear H; intros; rename_i w H; constructor) | refine wk ?_)
    refine Rel.appB (s := ⟨none, 0, 0⟩) (x := ⟨some ⟨b1, 0, none⟩, 3, 3⟩) (xs := []) (ys := [239, 187, 191]) H (i := 0) rfl (by simp) ?_
    clear H
    intro rm w H
    simp only [List.set_cons_zero] at H
    rw [List.nil_append] at H
    rw [show encC 1 cs = some (markB ++ cs.flatMap u8c) from rfl]
    (first | (refine H.wg ?_; clear H; intros; rename_i w H; constructor) | refine wk ?_)
    refine loop_inv (S := Nat × Sl) tabOk [0, 1, 12, 17, 22] (fun k => [(7, iv k.1), (6, k.2.v)]) (fun k w' => k.1 ≤ cs.length ∧ ∃ V3, Sub V V3 ∧ Rel W V [.row k.2 5 1 ((markB ++ (cs.take k.1).flatMap u8c).flatMap byC)] V3 w') (fun k _ => cs.length - k.1) (0, rm) ?_
    (conv => whnf)
    refine ⟨(by repeat (first | exact trivial | refine ⟨rfl, ?_⟩)), ⟨by omega, V, Sub.refl _, by rw [List.take_zero, List.flatMap_nil, List.append_nil]; exact H⟩, ?_⟩
    clear H
    rintro ⟨k, r⟩ w ⟨hk, V3, hV3, H⟩
    dsimp only at hk H ⊢
    have hlu := u8_take cs k
    by_cases hlt : k < cs.length
    · obtain ⟨p0, c0⟩ := (hs.up hV3).at1 (g := fun u : Nat => iv (u : Int)) (fun _ => rfl) hlt
      (first | (refine H.wg ?_; clear H; intros; rename_i w H; constructor) | refine wk ?_)
      refine (utf8_ref H.data (hc _ (List.getElem_mem hlt))).use ?_
      rintro v w ⟨V4, r4, hV4, K, rfl, hr4⟩
      (have hKb := K.base; replace H := H.call0 K)
      have hu4 := u8n_le cs[k]
      (first | (refine H.wg ?_; clear H; intros; rename_i w H; constructor) | refine wk ?_)
      refine Rel.appBz H hr4 (by rw [List.length_append, u8c_len]; simp only [List.length_cons, List.length_nil]; omega) ?_
      clear H
      intro rn w H
      (first | (refine H.wg ?_; clear H; intros; rename_i w H; constructor) | refine wk ?_)
      refine ⟨(by repeat (first | exact trivial | refine ⟨rfl, ?_⟩)), (k + 1, rn), (by repeat (first | exact trivial | refine ⟨rfl, ?_⟩)), ⟨by dsimp only; omega, V4, hV3.trans hV4, ?_⟩, by dsimp only; omega⟩
      dsimp only
      rw [List.take_succ_eq_append_getElem hlt, u8_snoc, ← List.append_assoc]
      exact H.sx
    · rw [List.take_of_length_le (by omega)] at H
      obtain ⟨V4, hV4, H, hr⟩ := Rel.freezeF H (fun _ => rfl) (by decide)
      (first | (refine H.wg ?_; clear H; intros; rename_i w H; constructor) | refine wk ?_)
      exact ⟨V4, r, hV3.trans hV4, H.sx, rfl, hr⟩
  · replace H := H.rowNil 5 1
    (first | (refine H.wh ?_; clear H; intros; rename_i w H; constructor) | refine wk ?_)
    ((first | refine Rel.nwD H ?_ | refine Rel.nw H ?_); clear H; intro w b1 H)
    replace H := H.blkEq (c' := ([254, 255] : List UInt8).flatMap byC) rfl
    replace H := H.toRow (n := 2) (e := 5) (sz := 1) rfl (by simp [maxLen])
    (first | (refine H.wg ?_; clear H; intros; rename_i w H; constructor) | refine wk ?_)
    refine Rel.appB (s := ⟨none, 0, 0⟩) (x := ⟨some ⟨b1, 0, none⟩, 2, 2⟩) (xs := []) (ys := [254, 255]) H (i := 0) rfl (by simp) ?_
    clear H
    intro rm w H
    simp only [List.set_cons_zero] at H
    rw [List.nil_append] at H
    rw [show encC 2 cs = some ([254, 255] ++ (cs.flatMap u16c).flatMap (unB true)) from rfl]
    (first | (refine H.wg ?_; clear H; intros; rename_i w H; constructor) | refine wk ?_)
    refine loop_inv (S := Nat × Sl) tabOk [0, 1, 12, 17, 22] (fun k => [(7, iv k.1), (6, k.2.v)]) (fun k w' => k.1 ≤ cs.length ∧ ∃ V3, Sub V V3 ∧ Rel W V [.row k.2 5 1 (([254, 255] ++ ((cs.take k.1).flatMap u16c).flatMap (unB true)).flatMap byC)] V3 w') (fun k _ => cs.length - k.1) (0, rm) ?_
    (conv => whnf)
    refine ⟨(by repeat (first | exact trivial | refine ⟨rfl, ?_⟩)), ⟨by omega, V, Sub.refl _, by rw [List.take_zero, List.flatMap_nil, List.flatMap_nil, List.append_nil]; exact H⟩, ?_⟩
    clear H
    rintro ⟨k, r⟩ w ⟨hk, V3, hV3, H⟩
    dsimp only at hk H ⊢
    have hlu := u16_take true cs k
    by_cases hlt : k < cs.length
    · obtain ⟨p0, c0⟩ := (hs.up hV3).at1 (g := fun u : Nat => iv (u : Int)) (fun _ => rfl) hlt
      have hcc := hc _ (List.getElem_mem hlt)
      have hcl := isCh_lt hcc
      obtain ⟨c, hcE⟩ : ∃ c, c = cs[k] := ⟨_, rfl⟩
      rw [← hcE] at c0 hcc hcl
      obtain ⟨z, hz⟩ : ∃ z : Int, z = (c : Int) := ⟨_, rfl⟩
      rw [← hz] at c0
      have hul16 := u16c_lt hcc
      by_cases h16 : c < 65536
      · have e16 : u16c c = [c] := by unfold u16c; rw [if_pos h16]
        (first | (refine H.wh ?_; clear H; intros; rename_i w H; constructor) | refine wk ?_)
        ((first | refine Rel.nwD H ?_ | refine Rel.nw H ?_); clear H; intro w b9 H)
        rw [hz] at H
        obtain ⟨V4, hV4, H, hb9⟩ := H.freezeBlk
        have hus : SlF naC V4 ⟨some ⟨b9, 0, none⟩, 1, 1⟩ (u16c c) := by rw [e16]; exact ⟨rfl, Nat.le_refl _, hb9.cells⟩
        have hulen : (u16c c).length = 1 := by rw [e16]; rfl
        (first | (refine H.wg ?_; clear H; intros; rename_i w H; constructor) | refine wk ?_)
        refine loop_inv (S := Nat × Sl) tabOk [0, 1, 4, 5, 7, 8, 9, 12, 17, 22, 29, 37, 43, 45, 54] (fun j => [(10, iv j.1), (6, j.2.v)]) (fun j w' => j.1 ≤ (u16c c).length ∧ Rel W V [.row j.2 5 1 ((([254, 255] ++ ((cs.take k).flatMap u16c).flatMap (unB true)) ++ ((u16c c).take j.1).flatMap (unB true)).flatMap byC)] V4 w') (fun j _ => (u16c c).length - j.1) (0, r) ?_
        (conv => whnf)
        refine ⟨(by repeat (first | exact trivial | refine ⟨rfl, ?_⟩)), ⟨Nat.zero_le _, by rw [List.take_zero, List.flatMap_nil, List.append_nil]; exact H.sx⟩, ?_⟩
        clear H
        rintro ⟨j, rj⟩ w ⟨hj, H⟩
        dsimp only at hj H ⊢
        have hul := unB_take true (u16c c) j
        by_cases hjt : j < (u16c c).length
        · obtain ⟨_, d0⟩ := hus.at1 (g := fun u : Nat => iv (u : Int)) (fun _ => rfl) hjt
          have hu16 := hul16 _ (List.getElem_mem hjt)
          obtain ⟨u, hue⟩ : ∃ u, u = (u16c c)[j] := ⟨_, rfl⟩
          rw [← hue] at d0 hu16
          (first | (refine H.wg ?_; clear H; intros; rename_i w H; constructor) | refine wk ?_)
          ((first | refine draw_vcQ (id := 25) tabOk mixed [] [0, 1, 2, 3, 4, 5, 6, 7, 8, 9, 10, 11, 12, 13, 14, 15] (by kernel_rfl) ?_ | refine draw_vcQ (id := 26) tabOk mixed [] [0, 1, 2, 3, 4, 5, 6, 7, 8, 9, 10, 11, 12, 13, 14, 15] (by kernel_rfl) ?_); intro w hdw; replace H := Rel.ext H hdw.ext)
          (first | (refine H.wh ?_; clear H; intros; rename_i w H; constructor) | refine wk ?_)
          ((first | refine Rel.nwD H ?_ | refine Rel.nw H ?_); clear H; intro w b1 H)
          have q1 : wr .u8 ((u : Int) / 256) = ((u / 256 : Nat) : Int) := wr8 (n := u / 256) (by omega)
          have q2 : wr .u8 ((u : Int) % 256) = ((u % 256 : Nat) : Int) := wr8 (n := u % 256) (by omega)
          rw [q1, q2] at H
          replace H := H.blkEq (c' := (unB true u).flatMap byC) (by unfold unB; simp [byC, bv, toNat_ofNat_lt (show u / 256 < 256 by omega), toNat_ofNat_lt (show u % 256 < 256 by omega)])
          replace H := H.toRow (n := 2) (e := 5) (sz := 1) (by rw [flat_len (n := 1) (fun _ => rfl), unB_len]) (by simp [maxLen])
          (first | (refine H.wg ?_; clear H; intros; rename_i w H; constructor) | refine wk ?_)
          refine Rel.appB (x := ⟨some ⟨b1, 0, none⟩, 2, 2⟩) (ys := unB true u) H (i := 0) rfl (by rw [unB_len]; simp only [List.length_append, List.length_cons, List.length_nil]; omega) ?_
          clear H
          intro rn w H
          simp only [List.set_cons_zero] at H
          (first | (refine H.wg ?_; clear H; intros; rename_i w H; constructor) | refine wk ?_)
          refine ⟨(by repeat (first | exact trivial | refine ⟨rfl, ?_⟩)), (j + 1, rn), (by repeat (first | exact trivial | refine ⟨rfl, ?_⟩)), ⟨by dsimp only; omega, ?_⟩, by dsimp only; omega⟩
          dsimp only
          rw [List.take_succ_eq_append_getElem hjt, ub_snoc, ← List.append_assoc, ← hue]
          exact H.sx
        · rw [List.take_of_length_le (l := u16c c) (i := j) (by omega)] at H
          (first | (refine H.wg ?_; clear H; intros; rename_i w H; constructor) | refine wk ?_)
          refine ⟨(by repeat (first | exact trivial | refine ⟨rfl, ?_⟩)), (k + 1, rj), (by repeat (first | exact trivial | refine ⟨rfl, ?_⟩)), ⟨by dsimp only; omega, V4, hV3.trans hV4, ?_⟩, by dsimp only; omega⟩
          dsimp only
          rw [List.take_succ_eq_append_getElem hlt, u16_snoc, ← List.append_assoc, ← hcE]
          exact H.sx
      · obtain ⟨m, hm⟩ : ∃ m, m = c - 65536 := ⟨_, rfl⟩
        have e16 : u16c c = [55296 + m / 1024, 56320 + m % 1024] := by unfold u16c; rw [if_neg h16, ← hm]
        (first | (refine H.wh ?_; clear H; intros; rename_i w H; constructor) | refine wk ?_)
        ((first | refine Rel.nwD H ?_ | refine Rel.nw H ?_); clear H; intro w b9 H)
        (first | (refine H.wh ?_; clear H; intros; rename_i w H; constructor) | refine wk ?_)
        ((first | refine Rel.nwD H ?_ | refine Rel.nw H ?_); clear H; intro w b63 H)
        rw [show (55296 : Int) + (z - 65536) / 1024 = ((55296 + m / 1024 : Nat) : Int) by omega, show (56320 : Int) + (z - 65536) % 1024 = ((56320 + m % 1024 : Nat) : Int) by omega] at H
        obtain ⟨V4, hV4, H, hb9⟩ := H.freezeBlk
        have hus : SlF naC V4 ⟨some ⟨b63, 0, none⟩, 2, 2⟩ (u16c c) := by rw [e16]; exact ⟨rfl, Nat.le_refl _, hb9.cells⟩
        have hulen : (u16c c).length = 2 := by rw [e16]; rfl
        (first | (refine H.wg ?_; clear H; intros; rename_i w H; constructor) | refine wk ?_)
        refine loop_inv (S := Nat × Sl) tabOk [0, 1, 4, 5, 7, 8, 9, 12, 17, 22, 29, 37, 43, 45, 54] (fun j => [(10, iv j.1), (6, j.2.v)]) (fun j w' => j.1 ≤ (u16c c).length ∧ Rel W V [.row j.2 5 1 ((([254, 255] ++ ((cs.take k).flatMap u16c).flatMap (unB true)) ++ ((u16c c).take j.1).flatMap (unB true)).flatMap byC)] V4 w') (fun j _ => (u16c c).length - j.1) (0, r) ?_
        (conv => whnf)
        refine ⟨(by repeat (first | exact trivial | refine ⟨rfl, ?_⟩)), ⟨Nat.zero_le _, by rw [List.take_zero, List.flatMap_nil, List.append_nil]; exact H.sx⟩, ?_⟩
        clear H
        rintro ⟨j, rj⟩ w ⟨hj, H⟩
        dsimp only at hj H ⊢
        have hul := unB_take true (u16c c) j
        by_cases hjt : j < (u16c c).length
        · obtain ⟨_, d0⟩ := hus.at1 (g := fun u : Nat => iv (u : Int)) (fun _ => rfl) hjt
          have hu16 := hul16 _ (List.getElem_mem hjt)
          obtain ⟨u, hue⟩ : ∃ u, u = (u16c c)[j] := ⟨_, rfl⟩
          rw [← hue] at d0 hu16
          (first | (refine H.wg ?_; clear H; intros; rename_i w H; constructor) | refine wk ?_)
          ((first | refine draw_vcQ (id := 25) tabOk mixed [] [0, 1, 2, 3, 4, 5, 6, 7, 8, 9, 10, 11, 12, 13, 14, 15] (by kernel_rfl) ?_ | refine draw_vcQ (id := 26) tabOk mixed [] [0, 1, 2, 3, 4, 5, 6, 7, 8, 9, 10, 11, 12, 13, 14, 15] (by kernel_rfl) ?_); intro w hdw; replace H := Rel.ext H hdw.ext)
          (first | (refine H.wh ?_; clear H; intros; rename_i w H; constructor) | refine wk ?_)
          ((first | refine Rel.nwD H ?_ | refine Rel.nw H ?_); clear H; intro w b1 H)
          have q1 : wr .u8 ((u : Int) / 256) = ((u / 256 : Nat) : Int) := wr8 (n := u / 256) (by omega)
          have q2 : wr .u8 ((u : Int) % 256) = ((u % 256 : Nat) : Int) := wr8 (n := u % 256) (by omega)
          rw [q1, q2] at H
          replace H := H.blkEq (c' := (unB true u).flatMap byC) (by unfold unB; simp [byC, bv, toNat_ofNat_lt (show u / 256 < 256 by omega), toNat_ofNat_lt (show u % 256 < 256 by omega)])
          replace H := H.toRow (n := 2) (e := 5) (sz := 1) (by rw [flat_len (n := 1) (fun _ => rfl), unB_len]) (by simp [maxLen])
          (first | (refine H.wg ?_; clear H; intros; rename_i w H; constructor) | refine wk ?_)
          refine Rel.appB (x := ⟨some ⟨b1, 0, none⟩, 2, 2⟩) (ys := unB true u) H (i := 0) rfl (by rw [unB_len]; simp only [List.length_append, List.length_cons, List.length_nil]; omega) ?_
          clear H
          intro rn w H
          simp only [List.set_cons_zero] at H
          (first | (refine H.wg ?_; clear H; intros; rename_i w H; constructor) | refine wk ?_)
          refine ⟨(by repeat (first | exact trivial | refine ⟨rfl, ?_⟩)), (j + 1, rn), (by repeat (first | exact trivial | refine ⟨rfl, ?_⟩)), ⟨by dsimp only; omega, ?_⟩, by dsimp only; omega⟩
          dsimp only
          rw [List.take_succ_eq_append_getElem hjt, ub_snoc, ← List.append_assoc, ← hue]
          exact H.sx
        · rw [List.take_of_length_le (l := u16c c) (i := j) (by omega)] at H
          (first | (refine H.wg ?_; clear H; intros; rename_i w H; constructor) | refine wk ?_)
          refine ⟨(by repeat (first | exact trivial | refine ⟨rfl, ?_⟩)), (k + 1, rj), (by repeat (first | exact trivial | refine ⟨rfl, ?_⟩)), ⟨by dsimp only; omega, V4, hV3.trans hV4, ?_⟩, by dsimp only; omega⟩
          dsimp only
          rw [List.take_succ_eq_append_getElem hlt, u16_snoc, ← List.append_assoc, ← hcE]
          exact H.sx
    · rw [List.take_of_length_le (by omega)] at H
      obtain ⟨V4, hV4, H, hr⟩ := Rel.freezeF H (fun _ => rfl) (by decide)
      (first | (refine H.wg ?_; clear H; intros; rename_i w H; constructor) | refine wk ?_)
      exact ⟨V4, r, hV3.trans hV4, H.sx, rfl, hr⟩
  · replace H := H.rowNil 5 1
    (first | (refine H.wh ?_; clear H; intros; rename_i w H; constructor) | refine wk ?_)
    ((first | refine Rel.nwD H ?_ | refine Rel.nw H ?_); clear H; intro w b1 H)
    replace H := H.blkEq (c' := ([255, 254] : List UInt8).flatMap byC) rfl
    replace H := H.toRow (n := 2) (e := 5) (sz := 1) rfl (by simp [maxLen])
    (first | (refine H.wg ?_; clear H; intros; rename_i w H; constructor) | refine wk ?_)
    refine Rel.appB (s := ⟨none, 0, 0⟩) (x := ⟨some ⟨b1, 0, none⟩, 2, 2⟩) (xs := []) (ys := [255, 254]) H (i := 0) rfl (by simp) ?_
    clear H
    intro rm w H
    simp only [List.set_cons_zero] at H
    rw [List.nil_append] at H
    rw [show encC 3 cs = some ([255, 254] ++ (cs.flatMap u16c).flatMap (unB false)) from rfl]
    (first | (refine H.wg ?_; clear H; intros; rename_i w H; constructor) | refine wk ?_)
    refine loop_inv (S := Nat × Sl) tabOk [0, 1, 12, 17, 22] (fun k => [(7, iv k.1), (6, k.2.v)]) (fun k w' => k.1 ≤ cs.length ∧ ∃ V3, Sub V V3 ∧ Rel W V [.row k.2 5 1 (([255, 254] ++ ((cs.take k.1).flatMap u16c).flatMap (unB false)).flatMap byC)] V3 w') (fun k _ => cs.length - k.1) (0, rm) ?_
    (conv => whnf)
    refine ⟨(by repeat (first | exact trivial | refine ⟨rfl, ?_⟩)), ⟨by omega, V, Sub.refl _, by rw [List.take_zero, List.flatMap_nil, List.flatMap_nil, List.append_nil]; exact H⟩, ?_⟩
    clear H
    rintro ⟨k, r⟩ w ⟨hk, V3, hV3, H⟩
    dsimp only at hk H ⊢
    have hlu := u16_take false cs k
    by_cases hlt : k < cs.length
    · obtain ⟨p0, c0⟩ := (hs.up hV3).at1 (g := fun u : Nat => iv (u : Int)) (fun _ => rfl) hlt
      have hcc := hc _ (List.getElem_mem hlt)
      have hcl := isCh_lt hcc
      obtain ⟨c, hcE⟩ : ∃ c, c = cs[k] := ⟨_, rfl⟩
      rw [← hcE] at c0 hcc hcl
      obtain ⟨z, hz⟩ : ∃ z : Int, z = (c : Int) := ⟨_, rfl⟩
      rw [← hz] at c0
      have hul16 := u16c_lt hcc
      by_cases h16 : c < 65536
      · have e16 : u16c c = [c] := by unfold u16c; rw [if_pos h16]
        (first | (refine H.wh ?_; clear H; intros; rename_i w H; constructor) | refine wk ?_)
        ((first | refine Rel.nwD H ?_ | refine Rel.nw H ?_); clear H; intro w b9 H)
        rw [hz] at H
        obtain ⟨V4, hV4, H, hb9⟩ := H.freezeBlk
        have hus : SlF naC V4 ⟨some ⟨b9, 0, none⟩, 1, 1⟩ (u16c c) := by rw [e16]; exact ⟨rfl, Nat.le_refl _, hb9.cells⟩
        have hulen : (u16c c).length = 1 := by rw [e16]; rfl
        (first | (refine H.wg ?_; clear H; intros; rename_i w H; constructor) | refine wk ?_)
        refine loop_inv (S := Nat × Sl) tabOk [0, 1, 4, 5, 7, 8, 9, 12, 17, 22, 29, 37, 43, 45, 54] (fun j => [(10, iv j.1), (6, j.2.v)]) (fun j w' => j.1 ≤ (u16c c).length ∧ Rel W V [.row j.2 5 1 ((([255, 254] ++ ((cs.take k).flatMap u16c).flatMap (unB false)) ++ ((u16c c).take j.1).flatMap (unB false)).flatMap byC)] V4 w') (fun j _ => (u16c c).length - j.1) (0, r) ?_
        (conv => whnf)
        refine ⟨(by repeat (first | exact trivial | refine ⟨rfl, ?_⟩)), ⟨Nat.zero_le _, by rw [List.take_zero, List.flatMap_nil, List.append_nil]; exact H.sx⟩, ?_⟩
        clear H
        rintro ⟨j, rj⟩ w ⟨hj, H⟩
        dsimp only at hj H ⊢
        have hul := unB_take false (u16c c) j
        by_cases hjt : j < (u16c c).length
        · obtain ⟨_, d0⟩ := hus.at1 (g := fun u : Nat => iv (u : Int)) (fun _ => rfl) hjt
          have hu16 := hul16 _ (List.getElem_mem hjt)
          obtain ⟨u, hue⟩ : ∃ u, u = (u16c c)[j] := ⟨_, rfl⟩
          rw [← hue] at d0 hu16
          (first | (refine H.wg ?_; clear H; intros; rename_i w H; constructor) | refine wk ?_)
          ((first | refine draw_vcQ (id := 25) tabOk mixed [] [0, 1, 2, 3, 4, 5, 6, 7, 8, 9, 10, 11, 12, 13, 14, 15] (by kernel_rfl) ?_ | refine draw_vcQ (id := 26) tabOk mixed [] [0, 1, 2, 3, 4, 5, 6, 7, 8, 9, 10, 11, 12, 13, 14, 15] (by kernel_rfl) ?_); intro w hdw; replace H := Rel.ext H hdw.ext)
          (first | (refine H.wh ?_; clear H; intros; rename_i w H; constructor) | refine wk ?_)
          ((first | refine Rel.nwD H ?_ | refine Rel.nw H ?_); clear H; intro w b1 H)
          have q1 : wr .u8 ((u : Int) / 256) = ((u / 256 : Nat) : Int) := wr8 (n := u / 256) (by omega)
          have q2 : wr .u8 ((u : Int) % 256) = ((u % 256 : Nat) : Int) := wr8 (n := u % 256) (by omega)
          rw [q1, q2] at H
          replace H := H.blkEq (c' := (unB false u).flatMap byC) (by unfold unB; simp [byC, bv, toNat_ofNat_lt (show u / 256 < 256 by omega), toNat_ofNat_lt (show u % 256 < 256 by omega)])
          replace H := H.toRow (n := 2) (e := 5) (sz := 1) (by rw [flat_len (n := 1) (fun _ => rfl), unB_len]) (by simp [maxLen])
          (first | (refine H.wg ?_; clear H; intros; rename_i w H; constructor) | refine wk ?_)
          refine Rel.appB (x := ⟨some ⟨b1, 0, none⟩, 2, 2⟩) (ys := unB false u) H (i := 0) rfl (by rw [unB_len]; simp only [List.length_append, List.length_cons, List.length_nil]; omega) ?_
          clear H
          intro rn w H
          simp only [List.set_cons_zero] at H
          (first | (refine H.wg ?_; clear H; intros; rename_i w H; constructor) | refine wk ?_)
          refine ⟨(by repeat (first | exact trivial | refine ⟨rfl, ?_⟩)), (j + 1, rn), (by repeat (first | exact trivial | refine ⟨rfl, ?_⟩)), ⟨by dsimp only; omega, ?_⟩, by dsimp only; omega⟩
          dsimp only
          rw [List.take_succ_eq_append_getElem hjt, ub_snoc, ← List.append_assoc, ← hue]
          exact H.sx
        · rw [List.take_of_length_le (l := u16c c) (i := j) (by omega)] at H
          (first | (refine H.wg ?_; clear H; intros; rename_i w H; constructor) | refine wk ?_)
          refine ⟨(by repeat (first | exact trivial | refine ⟨rfl, ?_⟩)), (k + 1, rj), (by repeat (first | exact trivial | refine ⟨rfl, ?_⟩)), ⟨by dsimp only; omega, V4, hV3.trans hV4, ?_⟩, by dsimp only; omega⟩
          dsimp only
          rw [List.take_succ_eq_append_getElem hlt, u16_snoc, ← List.append_assoc, ← hcE]
          exact H.sx
      · obtain ⟨m, hm⟩ : ∃ m, m = c - 65536 := ⟨_, rfl⟩
        have e16 : u16c c = [55296 + m / 1024, 56320 + m % 1024] := by unfold u16c; rw [if_neg h16, ← hm]
        (first | (refine H.wh ?_; clear H; intros; rename_i w H; constructor) | refine wk ?_)
        ((first | refine Rel.nwD H ?_ | refine Rel.nw H ?_); clear H; intro w b9 H)
        (first | (refine H.wh ?_; clear H; intros; rename_i w H; constructor) | refine wk ?_)
        ((first | refine Rel.nwD H ?_ | refine Rel.nw H ?_); clear H; intro w b63 H)
        rw [show (55296 : Int) + (z - 65536) / 1024 = ((55296 + m / 1024 : Nat) : Int) by omega, show (56320 : Int) + (z - 65536) % 1024 = ((56320 + m % 1024 : Nat) : Int) by omega] at H
        obtain ⟨V4, hV4, H, hb9⟩ := H.freezeBlk
        have hus : SlF naC V4 ⟨some ⟨b63, 0, none⟩, 2, 2⟩ (u16c c) := by rw [e16]; exact ⟨rfl, Nat.le_refl _, hb9.cells⟩
        have hulen : (u16c c).length = 2 := by rw [e16]; rfl
        (first | (refine H.wg ?_; clear H; intros; rename_i w H; constructor) | refine wk ?_)
        refine loop_inv (S := Nat × Sl) tabOk [0, 1, 4, 5, 7, 8, 9, 12, 17, 22, 29, 37, 43, 45, 54] (fun j => [(10, iv j.1), (6, j.2.v)]) (fun j w' => j.1 ≤ (u16c c).length ∧ Rel W V [.row j.2 5 1 ((([255, 254] ++ ((cs.take k).flatMap u16c).flatMap (unB false)) ++ ((u16c c).take j.1).flatMap (unB false)).flatMap byC)] V4 w') (fun j _ => (u16c c).length - j.1) (0, r) ?_
        (conv => whnf)
        refine ⟨(by repeat (first | exact trivial | refine ⟨rfl, ?_⟩)), ⟨Nat.zero_le _, by rw [List.take_zero, List.flatMap_nil, List.append_nil]; exact H.sx⟩, ?_⟩
        clear H
        rintro ⟨j, rj⟩ w ⟨hj, H⟩
        dsimp only at hj H ⊢
        have hul := unB_take false (u16c c) j
        by_cases hjt : j < (u16c c).length
        · obtain ⟨_, d0⟩ := hus.at1 (g := fun u : Nat => iv (u : Int)) (fun _ => rfl) hjt
          have hu16 := hul16 _ (List.getElem_mem hjt)
          obtain ⟨u, hue⟩ : ∃ u, u = (u16c c)[j] := ⟨_, rfl⟩
          rw [← hue] at d0 hu16
          (first | (refine H.wg ?_; clear H; intros; rename_i w H; constructor) | refine wk ?_)
          ((first | refine draw_vcQ (id := 25) tabOk mixed [] [0, 1, 2, 3, 4, 5, 6, 7, 8, 9, 10, 11, 12, 13, 14, 15] (by kernel_rfl) ?_ | refine draw_vcQ (id := 26) tabOk mixed [] [0, 1, 2, 3, 4, 5, 6, 7, 8, 9, 10, 11, 12, 13, 14, 15] (by kernel_rfl) ?_); intro w hdw; replace H := Rel.ext H hdw.ext)
          (first | (refine H.wh ?_; clear H; intros; rename_i w H; constructor) | refine wk ?_)
          ((first | refine Rel.nwD H ?_ | refine Rel.nw H ?_); clear H; intro w b1 H)
          have q1 : wr .u8 ((u : Int) / 256) = ((u / 256 : Nat) : Int) := wr8 (n := u / 256) (by omega)
          have q2 : wr .u8 ((u : Int) % 256) = ((u % 256 : Nat) : Int) := wr8 (n := u % 256) (by omega)
          rw [q1, q2] at H
          replace H := H.blkEq (c' := (unB false u).flatMap byC) (by unfold unB; simp [byC, bv, toNat_ofNat_lt (show u / 256 < 256 by omega), toNat_ofNat_lt (show u % 256 < 256 by omega)])
          replace H := H.toRow (n := 2) (e := 5) (sz := 1) (by rw [flat_len (n := 1) (fun _ => rfl), unB_len]) (by simp [maxLen])
          (first | (refine H.wg ?_; clear H; intros; rename_i w H; constructor) | refine wk ?_)
          refine Rel.appB (x := ⟨some ⟨b1, 0, none⟩, 2, 2⟩) (ys := unB false u) H (i := 0) rfl (by rw [unB_len]; simp only [List.length_append, List.length_cons, List.length_nil]; omega) ?_
          clear H
          intro rn w H
          simp only [List.set_cons_zero] at H
          (first | (refine H.wg ?_; clear H; intros; rename_i w H; constructor) | refine wk ?_)
          refine ⟨(by repeat (first | exact trivial | refine ⟨rfl, ?_⟩)), (j + 1, rn), (by repeat (first | exact trivial | refine ⟨rfl, ?_⟩)), ⟨by dsimp only; omega, ?_⟩, by dsimp only; omega⟩
          dsimp only
          rw [List.take_succ_eq_append_getElem hjt, ub_snoc, ← List.append_assoc, ← hue]
          exact H.sx
        · rw [List.take_of_length_le (l := u16c c) (i := j) (by omega)] at H
          (first | (refine H.wg ?_; clear H; intros; rename_i w H; constructor) | refine wk ?_)
          refine ⟨(by repeat (first | exact trivial | refine ⟨rfl, ?_⟩)), (k + 1, rj), (by repeat (first | exact trivial | refine ⟨rfl, ?_⟩)), ⟨by dsimp only; omega, V4, hV3.trans hV4, ?_⟩, by dsimp only; omega⟩
          dsimp only
          rw [List.take_succ_eq_append_getElem hlt, u16_snoc, ← List.append_assoc, ← hcE]
          exact H.sx
    · rw [List.take_of_length_le (by omega)] at H
      obtain ⟨V4, hV4, H, hr⟩ := Rel.freezeF H (fun _ => rfl) (by decide)
      (first | (refine H.wg ?_; clear H; intros; rename_i w H; constructor) | refine wk ?_)
      exact ⟨V4, r, hV3.trans hV4, H.sx, rfl, hr⟩
  · rw [show encC 4 cs = if ∀ c ∈ cs, c < 256 then some (cs.map UInt8.ofNat) else none from rfl]
    replace H := H.rowNil 5 1
    (first | (refine H.wg ?_; clear H; intros; rename_i w H; constructor) | refine wk ?_)
    refine loop_inv (S := Nat × Sl) tabOk [0, 1, 12, 17, 22] (fun k => [(7, iv k.1), (6, k.2.v)]) (fun k w' => k.1 ≤ cs.length ∧ (∀ c ∈ cs.take k.1, c < 256) ∧ Rel W V [.row k.2 5 1 (((cs.take k.1).map UInt8.ofNat).flatMap byC)] V w') (fun k _ => cs.length - k.1) (0, ⟨none, 0, 0⟩) ?_
    (conv => whnf)
    refine ⟨(by repeat (first | exact trivial | refine ⟨rfl, ?_⟩)), ⟨by omega, by simp, H⟩, ?_⟩
    clear H
    rintro ⟨k, r⟩ w ⟨hk, ha, H⟩
    dsimp only at hk ha H ⊢
    by_cases hlt : k < cs.length
    · obtain ⟨p0, c0⟩ := hs.at1 (g := fun u : Nat => iv (u : Int)) (fun _ => rfl) hlt
      have hcc := isCh_lt (hc _ (List.getElem_mem hlt))
      have hlk : ((cs.take k).map UInt8.ofNat).length = k := by rw [List.length_map, List.length_take]; omega
      by_cases h255 : 255 < cs[k]
      · rw [if_neg (fun h => by have := h _ (List.getElem_mem hlt); omega)]
        (first | (refine H.wg ?_; clear H; intros; rename_i w H; constructor) | refine wk ?_)
        exact ⟨V, ⟨none, 0, 0⟩, Sub.refl _, H.sx, rfl⟩
      · (first | (refine H.wh ?_; clear H; intros; rename_i w H; constructor) | refine wk ?_)
        ((first | refine Rel.nwD H ?_ | refine Rel.nw H ?_); clear H; intro w b54 H)
        rw [wr8 (show cs[k] < 256 by omega)] at H
        replace H := H.blkEq (c' := byC (UInt8.ofNat cs[k])) (by simp only [byC, bv, toNat_ofNat_lt (show cs[k] < 256 by omega)])
        (first | (refine H.wg ?_; clear H; intros; rename_i w H; constructor) | refine wk ?_)
        refine Rel.app1_0 (f := byC) (l := (cs.take k).map UInt8.ofNat) (x := UInt8.ofNat cs[k]) tabOk rfl rfl rfl rfl rfl (by decide) (fun _ => rfl) (List.all_eq_true.1 rfl) H (by show (((cs.take k).map UInt8.ofNat).length + 1) * 1 ≤ _; omega) (by omega) ?_
        clear H
        intro rn w H
        (first | (refine H.wg ?_; clear H; intros; rename_i w H; constructor) | refine wk ?_)
        refine ⟨(by repeat (first | exact trivial | refine ⟨rfl, ?_⟩)), (k + 1, rn), (by repeat (first | exact trivial | refine ⟨rfl, ?_⟩)), ⟨by dsimp only; omega, fun c hc2 => ?_, ?_⟩, by dsimp only; omega⟩
        · dsimp only at hc2
          rw [List.take_succ_eq_append_getElem hlt] at hc2
          rcases List.mem_append.1 hc2 with h | h
          · exact ha c h
          · rw [List.mem_singleton.1 h]; omega
        · dsimp only
          rw [List.take_succ_eq_append_getElem hlt, List.map_append]
          exact H.sx
    · rw [List.take_of_length_le (by omega)] at H ha
      rw [if_pos ha]
      obtain ⟨V2, hV2, H, hr⟩ := Rel.freezeF H (fun _ => rfl) (by decide)
      (first | (refine H.wg ?_; clear H; intros; rename_i w H; constructor) | refine wk ?_)
      exact ⟨V2, r, hV2, H.sx, rfl, hr⟩
end
end Go.Proofs.YtgnaojphgdaalaaDoor
