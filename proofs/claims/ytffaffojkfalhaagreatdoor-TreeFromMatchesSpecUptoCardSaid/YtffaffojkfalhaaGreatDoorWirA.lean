/-
  Numbers and byte strings as bytes: the program and the reference.
-/
import Derived.Test.YtffaffojkfalhaaGreatDoorWirB
import Derived.Test.YtffaffojkfalhaaGreatDoorVcY
import Derived.Test.YtffaffojkfalhaaGreatDoorTab
namespace Go.Proofs.YtffaffojkfalhaaGreatDoor
open Go Go.RowKit

abbrev byC (b : UInt8) : List Value := [bv b]
abbrev Byt := SlF byC
theorem byC_map (l : List UInt8) : l.flatMap byC = l.map bv := by induction l <;> simp_all
theorem By.slf {V : World} {s : Sl} {l : List UInt8} (h : By V s l) : Byt V s l := ⟨h.len, h.cap, by rw [byC_map]; exact h.cells⟩
theorem Rel.blkEq {w0 V0 V w : World} {own : List Res} {b : Nat} {c c' : List Value} {t : TypeId} (H : Rel w0 V0 (.blk b c t :: own) V w) (h : c = c') : Rel w0 V0 (.blk b c' t :: own) V w := h ▸ H
/-- a row of bytes grows by a row, or by what is only read -/
theorem bv_ofNat {n : Nat} (h : n < 256) {x : Int} (hx : x = n) : [Value.int .u8 x] = byC (UInt8.ofNat n) := by
  subst hx
  simp only [byC, bv, toNat_ofNat_lt h]
theorem flat_by_one {l : List UInt8} : ∀ u ∈ l.flatMap byC, u.oneCell' = true := by
  intro u hu
  obtain ⟨x, _, hx⟩ := List.mem_flatMap.1 hu
  rw [List.mem_singleton.1 hx]; rfl
section
variable {w0 V0 V w : World} {own : List Res}
/-- a row of bytes grows by what is only read -/
theorem Rel.appD {i : Nat} {s x : Sl} {xs ys : List UInt8} (H : Rel w0 V0 own V w) (hi : own[i]? = some (.row s 5 1 (xs.flatMap byC))) (hx : Byt V x ys) (hb : xs.length + ys.length ≤ 1099511627776) {ty : TypeId} {k : Value → World → Prop}
    (hk : ∀ s' w', Rel w0 V0 (own.set i (.row s' 5 1 ((xs ++ ys).flatMap byC))) V w' → k s'.v w') : SemOk Tryz.prog (Builtin.append_ #[22, 22] ty #[s.v, x.v]) w k := by
  have hl := H.rowLen hi (fun _ => rfl) (by decide)
  have hxl := hx.len
  refine Rel.appAt tabOk rfl rfl rfl rfl rfl (by decide) H hi (hx.up H.data).cells (by rw [flat_len (n := 1) (fun _ => rfl), hxl]) flat_by_one (by rw [hl, hxl]; simp; omega) (by rw [hl, hxl]; omega) ?_
  intro s' w' H' _
  refine hk s' w' ?_
  rw [List.flatMap_append]
  exact H'
/-- a row of bytes grows by another row -/
theorem Rel.appB {i : Nat} {s x : Sl} {xs ys : List UInt8} (H : Rel w0 V0 (.row x 5 1 (ys.flatMap byC) :: own) V w) (hi : own[i]? = some (.row s 5 1 (xs.flatMap byC))) (hb : xs.length + ys.length ≤ 1099511627776) {ty : TypeId} {k : Value → World → Prop}
    (hk : ∀ s' w', Rel w0 V0 (own.set i (.row s' 5 1 ((xs ++ ys).flatMap byC))) V w' → k s'.v w') : SemOk Tryz.prog (Builtin.append_ #[22, 22] ty #[s.v, x.v]) w k := by
  have hl := H.drop1.rowLen hi (fun _ => rfl) (by decide)
  have hxl := H.rowLen (i := 0) rfl (fun _ => rfl) (by decide)
  have hc := (H.rowAt (i := 0) rfl).cells
  refine Rel.appAt tabOk rfl rfl rfl rfl rfl (by decide) H (i := i + 1) (by simpa using hi) hc (by rw [flat_len (n := 1) (fun _ => rfl), hxl]) flat_by_one (by rw [hl, hxl]; simp; omega) (by rw [hl, hxl]; omega) ?_
  intro s' w' H' _
  refine hk s' w' ?_
  rw [List.flatMap_append]
  exact Rel.drop1 (by simpa using H')
end
section
variable {V W : World}
theorem number_spec (hV : Sub V W) {n : Int} (hn : I64 n) : Ret Tryz.prog 50 [iv n].toArray W fun v w' => ∃ r : Sl, v = r.v ∧ Rel W V [.row r 5 1 ((putN n).flatMap byC)] V w' := by
  have H := Rel.start hV
  have hlen := putN_len hn.1 hn.2
  have hz := zz_bits hn
  have hzl := zz_lt hn.1 hn.2
  refine cal_of_vc tabOk Tryz.func50 rfl (by kernel_rfl) 27 rfl (by simp) [0, 2, 3, 4, 13] ?_
  (first | (refine H.wg ?_; clear H; intros; rename_i w H; constructor) | refine wk ?_)
  replace H := H.rowNil 5 1
  refine loop_inv (S := Nat × Sl × List UInt8) tabOk [0, 2] (fun k => [(3, .int .u64 k.1), (4, k.2.1.v)]) (fun k w' => k.1 < 18446744073709551616 ∧ k.2.2 ++ putU k.1 = putN n ∧ Rel W V [.row k.2.1 5 1 (k.2.2.flatMap byC)] V w') (fun k _ => k.1) (zz n, ⟨none, 0, 0⟩, []) ?_
  (conv => whnf)
  refine ⟨⟨congrArg (fun z => some (Value.int .u64 z)) hz, rfl, trivial⟩, ⟨hzl, rfl, H.sx⟩, ?_⟩
  clear H
  rintro ⟨u, r, o⟩ w ⟨hu, ho, H⟩
  dsimp only at hu ho H
  have hol := congrArg List.length ho
  have hpl := putU_len u
  simp only [List.length_append] at hol
  by_cases h128 : u < 128
  · rw [putU_small h128] at ho
    have hb : (u : Int) % 256 = (u : Nat) := by omega
    (first | (refine H.wg ?_; clear H; intros; rename_i w H; constructor) | refine wk ?_)
    refine Rel.app1_0 (f := byC) (x := UInt8.ofNat u) tabOk rfl rfl rfl rfl rfl (by decide) (fun _ => rfl) (by simp [Value.oneCell']) (H.blkEq (bv_ofNat (n := u) (by omega) hb)) (by simp; omega) (by omega) ?_
    clear H
    intro rn w H
    (first | (refine H.wg ?_; clear H; intros; rename_i w H; constructor) | refine wk ?_)
    exact ⟨rn, rfl, by rw [← ho]; exact H⟩
  · rw [putU_big h128] at ho
    have hb : bitsI .or .u8 ((u : Int) % 256) 128 = ((u % 128 + 128 : Nat) : Int) := by
      have := or128 (x := u % 256) (by omega)
      rw [show ((u % 256 : Nat) : Int) = (u : Int) % 256 by omega] at this
      rw [this]
      omega
    (first | (refine H.wg ?_; clear H; intros; rename_i w H; constructor) | refine wk ?_)
    refine Rel.app1_0 (f := byC) (x := UInt8.ofNat (u % 128 + 128)) tabOk rfl rfl rfl rfl rfl (by decide) (fun _ => rfl) (by simp [Value.oneCell']) (H.blkEq (bv_ofNat (n := u % 128 + 128) (by omega) hb)) (by simp; omega) (by omega) ?_
    clear H
    intro rn w H
    (first | (refine H.wg ?_; clear H; intros; rename_i w H; constructor) | refine wk ?_)
    refine ⟨(by repeat (first | exact trivial | refine ⟨rfl, ?_⟩)), (u / 128, rn, o ++ [UInt8.ofNat (u % 128 + 128)]), ⟨rfl, rfl, trivial⟩, ⟨by dsimp only; omega, by simpa using ho, H.sx⟩, by dsimp only; omega⟩
theorem chunk_spec (hV : Sub V W) {x : Sl} {b : List UInt8} (hx : Byt V x b) (hl : b.length ≤ 1099511627000) : Ret Tryz.prog 51 [x.v].toArray W fun v w' => ∃ r : Sl, v = r.v ∧ Rel W V [.row r 5 1 ((putC b).flatMap byC)] V w' := by
  have H := Rel.start hV
  have hxl := hx.len
  have hp := putN_len (n := b.length) (by omega) (by omega)
  refine cal_of_vc tabOk Tryz.func51 rfl (by kernel_rfl) 8 rfl (by simp) [0, 2] ?_
  (first | (refine H.wg ?_; clear H; intros; rename_i w H; constructor) | refine wk ?_)
  rw [hxl]
  refine (number_spec (n := b.length) H.data (by constructor <;> omega)).use ?_
  rintro v w ⟨r, rfl, K⟩
  replace H := H.call K
  (first | (refine H.wg ?_; clear H; intros; rename_i w H; constructor) | refine wk ?_)
  refine Rel.appD H (i := 0) rfl hx (by omega) ?_
  clear H
  intro rn w H
  (first | (refine H.wg ?_; clear H; intros; rename_i w H; constructor) | refine wk ?_)
  exact ⟨rn, rfl, H⟩
theorem copy_ref (hV : Sub V W) {x : Sl} {b : List UInt8} (hx : Byt V x b) (hl : b.length ≤ 1099511627000) : Ret Tryz.prog 43 [x.v].toArray W fun v w' => ∃ r : Sl, v = r.v ∧ Rel W V [.row r 5 1 (b.flatMap byC)] V w' := by
  have H := Rel.start hV
  refine cal_of_vc tabOk Tryz.func43 rfl (by kernel_rfl) 7 rfl (by simp) [0, 2, 3] ?_
  (first | (refine H.wg ?_; clear H; intros; rename_i w H; constructor) | refine wk ?_)
  replace H := H.rowNil 5 1
  refine Rel.appD (s := ⟨none, 0, 0⟩) (xs := []) H (i := 0) rfl hx (by simp; omega) ?_
  clear H
  intro rn w H
  (first | (refine H.wg ?_; clear H; intros; rename_i w H; constructor) | refine wk ?_)
  exact ⟨rn, rfl, H⟩
theorem join_ref (hV : Sub V W) {x y : Sl} {a b : List UInt8} (hx : Byt V x a) (hy : Byt V y b) (hl : a.length + b.length ≤ 1099511627000) : Ret Tryz.prog 19 [x.v, y.v].toArray W fun v w' => ∃ r : Sl, v = r.v ∧ Rel W V [.row r 5 1 ((a ++ b).flatMap byC)] V w' := by
  have H := Rel.start hV
  refine cal_of_vc tabOk Tryz.func19 rfl (by kernel_rfl) 9 rfl (by simp) [0, 1, 4] ?_
  (first | (refine H.wg ?_; clear H; intros; rename_i w H; constructor) | refine wk ?_)
  refine (copy_ref H.data hx (by omega)).use ?_
  rintro v w ⟨r, rfl, K⟩
  replace H := H.call K
  (first | (refine H.wg ?_; clear H; intros; rename_i w H; constructor) | refine wk ?_)
  refine Rel.appD H (i := 0) rfl hy (by omega) ?_
  clear H
  intro rn w H
  (first | (refine H.wg ?_; clear H; intros; rename_i w H; constructor) | refine wk ?_)
  exact ⟨rn, rfl, H⟩
theorem bytes_ref (hV : Sub V W) {x y : Sl} {a b : List UInt8} (hx : Byt V x a) (hy : Byt V y b) : Ret Tryz.prog 14 [x.v, y.v].toArray W fun v w' => v = .bool (decide (a = b)) ∧ Rel W V [] V w' := by
  have H := Rel.start hV
  have h1 := hx.len
  have h2 := hy.len
  have hcx : Cells W x.a (a.map bv) := byC_map a ▸ (hx.up hV).cells
  have hcy : Cells W y.a (b.map bv) := byC_map b ▸ (hy.up hV).cells
  refine cal_of_vc tabOk Tryz.func14 rfl (by kernel_rfl) 10 rfl (by simp) [0, 1, 4] ?_
  (first | (refine H.wg ?_; clear H; intros; rename_i w H; constructor) | refine wk ?_)
  exact H
/-- the groups of seven bits -/
def grps (u : Nat) : List Int := if u < 128 then [(u : Int)] else ((u % 128 : Nat) : Int) :: grps (u / 128)
decreasing_by omega
theorem grps_small {u : Nat} (h : u < 128) : grps u = [(u : Int)] := by rw [grps, if_pos h]
theorem grps_big {u : Nat} (h : ¬ u < 128) : grps u = ((u % 128 : Nat) : Int) :: grps (u / 128) := by rw [grps, if_neg h]
theorem grps_pos (u : Nat) : 0 < (grps u).length := by
  rw [grps]
  split <;> simp
theorem grps_put (u : Nat) : (putU u).length = (grps u).length ∧ ∀ k, k < (grps u).length → ∃ g : Nat, (grps u)[k]? = some (g : Int) ∧ g < 128 ∧ (putU u)[k]? = some (UInt8.ofNat (if k + 1 < (grps u).length then g + 128 else g)) := by
  induction u using Nat.strongRecOn with
  | ind u ih =>
    by_cases h : u < 128
    · rw [putU_small h, grps_small h]
      refine ⟨rfl, fun k hk => ?_⟩
      simp at hk
      subst hk
      exact ⟨u, rfl, h, by simp⟩
    · rw [putU_big h, grps_big h]
      obtain ⟨h1, h2⟩ := ih (u / 128) (by omega)
      have hp := grps_pos (u / 128)
      refine ⟨by simp [h1], fun k hk => ?_⟩
      cases k with
      | zero => exact ⟨u % 128, rfl, by omega, by rw [if_pos (by simp only [List.length_cons]; omega)]; rfl⟩
      | succ k =>
        simp only [List.length_cons, Nat.add_lt_add_iff_right] at hk
        obtain ⟨g, g1, g2, g3⟩ := h2 k hk
        refine ⟨g, by simpa using g1, g2, ?_⟩
        simp only [List.getElem?_cons_succ, List.length_cons, Nat.add_lt_add_iff_right]
        exact g3
abbrev itC (z : Int) : List Value := [iv z]
theorem SlF.at1 {α : Type} {f : α → List Value} {s : Sl} {l : List α} (h : SlF f V s l) {g : α → Value} (hf : ∀ x, f x = [g x]) {i : Nat} (hi : i < l.length) : Plain s.a ∧ V.cell? ⟨ablk s.a, aoff s.a + i, none⟩ = some (g l[i]) := by
  obtain ⟨h1, h2⟩ := h.get (n := 1) (fun x => by rw [hf]; rfl) (by omega) hi
  refine ⟨h1, ?_⟩
  have := h2 0 (g l[i]) (by rw [hf]; rfl)
  simpa using this
theorem put_ref (hV : Sub V W) {n : Int} (hn : I64 n) : Ret Tryz.prog 32 [iv n].toArray W fun v w' => ∃ r : Sl, v = r.v ∧ Rel W V [.row r 5 1 ((putN n).flatMap byC)] V w' := by
  have H := Rel.start hV
  have hlen := putN_len hn.1 hn.2
  have hzl := zz_lt hn.1 hn.2
  obtain ⟨hgl, hgr⟩ := grps_put (zz n)
  have hpe : putN n = putU (zz n) := rfl
  rw [hpe] at hlen
  refine cal_of_vc tabOk Tryz.func32 rfl (by kernel_rfl) 62 rfl (by simp) [0, 2, 3, 4, 5, 6, 8, 24, 36, 43] ?_
  by_cases h0 : 0 ≤ n
  · have hz : (2 * (n % 18446744073709551616)) % 18446744073709551616 = (zz n : Nat) := by unfold zz; rw [if_pos h0]; omega
    (first | (refine H.wg ?_; clear H; intros; rename_i w H; constructor) | refine wk ?_)
    replace H := H.rowNil 3 1
    refine SemC.cut 0 (fun r : Sl => [(4, r.v)]) (fun r w' => Rel W V [.row r 3 1 ((grps (zz n)).flatMap itC)] V w') ?_ ?_
    · refine loop_inv (S := Nat × Sl × List Int) tabOk [0, 2, 5, 6, 8, 36, 43] (fun k => [(3, .int .u64 k.1), (4, k.2.1.v)]) (fun k w' => k.1 < 18446744073709551616 ∧ k.2.2 ++ (if k.2.2 ≠ [] ∧ k.1 = 0 then [] else grps k.1) = grps (zz n) ∧ Rel W V [.row k.2.1 3 1 (k.2.2.flatMap itC)] V w') (fun k _ => if k.2.2 = [] then k.1 + 1 else k.1) (zz n, ⟨none, 0, 0⟩, []) ?_
      (conv => whnf)
      refine ⟨⟨congrArg (fun z => some (Value.int .u64 z)) hz, rfl, trivial⟩, ⟨hzl, by simp, H.sx⟩, ?_⟩
      clear H
      rintro ⟨u, r, G⟩ w ⟨hu, ho, H⟩
      dsimp only at hu ho H
      have hrl := H.rowLen (i := 0) rfl (fun _ => rfl) (by decide)
      have hrl' : (u, r, G).snd.fst.len = r.len := rfl
      have hol := congrArg List.length ho
      simp only [List.length_append] at hol
      by_cases hd : G ≠ [] ∧ u = 0
      · have hG : 0 < G.length := List.length_pos_iff.2 hd.1
        rw [if_pos hd, List.append_nil] at ho
        obtain ⟨_, hd⟩ := hd
        (first | (refine H.wg ?_; clear H; intros; rename_i w H; constructor) | refine wk ?_)
        exact ⟨r, (by repeat (first | exact trivial | refine ⟨rfl, ?_⟩)), by rw [← ho]; exact H⟩
      rw [if_neg hd] at ho hol
      have hG : G = [] ∨ 0 < u := by
        by_cases hG : G = []
        · exact .inl hG
        · exact .inr (Nat.pos_of_ne_zero fun h0 => hd ⟨hG, h0⟩)
      clear hd
      have hgp := grps_pos u
      have hq : ((u : Int) / 128) % 18446744073709551616 = ((u / 128 : Nat) : Int) := by omega
      have hnext : (G ++ [((u % 128 : Nat) : Int)]) ++ (if (G ++ [((u % 128 : Nat) : Int)]) ≠ [] ∧ u / 128 = 0 then [] else grps (u / 128)) = grps (zz n) := by
        rw [← ho]
        by_cases h128 : u < 128
        · rw [if_pos ⟨by simp, by omega⟩, grps_small h128, show u % 128 = u by omega]; simp
        · rw [if_neg (by omega), grps_big h128]; simp
      have hmu : (if (G ++ [((u % 128 : Nat) : Int)]) = [] then u / 128 + 1 else u / 128) < (if G = [] then u + 1 else u) := by
        rw [if_neg (by simp)]
        rcases hG with rfl | hG
        · simp; omega
        · split <;> omega
      rcases hG with rfl | hG
      · simp only [List.length_nil] at hrl hol
        have hrl' : (u, r, ([] : List Int)).snd.fst.len = r.len := rfl
        (first | (refine H.wg ?_; clear H; intros; rename_i w H; constructor) | refine wk ?_)
        refine Rel.app1_0 (f := itC) (l := []) (x := ((u % 128 : Nat) : Int)) tabOk rfl rfl rfl rfl rfl (by decide) (fun _ => rfl) (by simp [Value.oneCell']) H (by simp) (by simp) ?_
        clear H
        intro rn w H
        (first | (refine H.wg ?_; clear H; intros; rename_i w H; constructor) | refine wk ?_)
        exact ⟨(by repeat (first | exact trivial | refine ⟨rfl, ?_⟩)), (u / 128, rn, [((u % 128 : Nat) : Int)]), ⟨congrArg (fun z => some (Value.int .u64 z)) hq, rfl, trivial⟩, ⟨by dsimp only; omega, hnext, H.sx⟩, hmu⟩
      · by_cases hr0 : r.len = 0
        all_goals
          (first | (refine H.wg ?_; clear H; intros; rename_i w H; constructor) | refine wk ?_)
          refine Rel.app1_0 (f := itC) (x := ((u % 128 : Nat) : Int)) tabOk rfl rfl rfl rfl rfl (by decide) (fun _ => rfl) (by simp [Value.oneCell']) H (by simp; omega) (by omega) ?_
          clear H
          intro rn w H
          (first | (refine H.wg ?_; clear H; intros; rename_i w H; constructor) | refine wk ?_)
          exact ⟨(by repeat (first | exact trivial | refine ⟨rfl, ?_⟩)), (u / 128, rn, G ++ [((u % 128 : Nat) : Int)]), ⟨congrArg (fun z => some (Value.int .u64 z)) hq, rfl, trivial⟩, ⟨by dsimp only; omega, hnext, H.sx⟩, hmu⟩
    clear H
    rintro r w H
    obtain ⟨V1, hV1, H, hr⟩ := Rel.freezeF H (fun _ => rfl) (by decide)
    have hrl := hr.len
    replace H := H.rowNil 5 1
    (first | (refine H.wg ?_; clear H; intros; rename_i w H; constructor) | refine wk ?_)
    refine loop_inv (S := Nat × Sl) tabOk [0, 2, 3, 4, 8, 24] (fun k => [(5, k.2.v), (6, iv k.1)]) (fun k w' => k.1 ≤ (grps (zz n)).length ∧ Rel W V [.row k.2 5 1 (((putU (zz n)).take k.1).flatMap byC)] V1 w') (fun k _ => (grps (zz n)).length - k.1) (0, ⟨none, 0, 0⟩) ?_
    (conv => whnf)
    refine ⟨(by repeat (first | exact trivial | refine ⟨rfl, ?_⟩)), ⟨by omega, H.sx⟩, ?_⟩
    clear H
    rintro ⟨k, o⟩ w ⟨hk, H⟩
    dsimp only at hk H
    by_cases hlt : k < (grps (zz n)).length
    rotate_left
    · (first | (refine H.wg ?_; clear H; intros; rename_i w H; constructor) | refine wk ?_)
      rw [List.take_of_length_le (by omega)] at H
      exact ⟨o, rfl, H.back⟩
    obtain ⟨g, hg1, hg2, hg3⟩ := hgr k hlt
    obtain ⟨hp, hc⟩ := hr.at1 (g := iv) (fun _ => rfl) hlt
    have hgk : (grps (zz n))[k] = g := by rw [List.getElem?_eq_getElem hlt] at hg1; exact Option.some.inj hg1
    have hkp : k < (putU (zz n)).length := by omega
    have htk : (putU (zz n)).take (k + 1) = (putU (zz n)).take k ++ [UInt8.ofNat (if k + 1 < (grps (zz n)).length then g + 128 else g)] := by
      rw [List.take_succ_eq_append_getElem hkp]
      rw [List.getElem?_eq_getElem hkp] at hg3
      rw [Option.some.inj hg3]
    rw [hgk] at hc
    by_cases hlast : k + 1 < (grps (zz n)).length
    · rw [if_pos hlast] at htk
      have hb : ((g : Int) + 128) % 256 = ((g + 128 : Nat) : Int) := by omega
      (first | (refine H.wg ?_; clear H; intros; rename_i w H; constructor) | refine wk ?_)
      refine Rel.app1_0 (f := byC) (x := UInt8.ofNat (g + 128)) tabOk rfl rfl rfl rfl rfl (by decide) (fun _ => rfl) (by simp [Value.oneCell']) (H.blkEq (bv_ofNat (n := g + 128) (by omega) hb)) (by simp; omega) (by simp; omega) ?_
      clear H
      intro rn w H
      rw [← htk] at H
      (first | (refine H.wg ?_; clear H; intros; rename_i w H; constructor) | refine wk ?_)
      exact ⟨(by repeat (first | exact trivial | refine ⟨rfl, ?_⟩)), (k + 1, rn), (by repeat (first | exact trivial | refine ⟨rfl, ?_⟩)), ⟨by omega, H.sx⟩, by omega⟩
    · rw [if_neg hlast] at htk
      have hb : (g : Int) % 256 = (g : Nat) := by omega
      (first | (refine H.wg ?_; clear H; intros; rename_i w H; constructor) | refine wk ?_)
      refine Rel.app1_0 (f := byC) (x := UInt8.ofNat g) tabOk rfl rfl rfl rfl rfl (by decide) (fun _ => rfl) (by simp [Value.oneCell']) (H.blkEq (bv_ofNat (n := g) (by omega) hb)) (by simp; omega) (by simp; omega) ?_
      clear H
      intro rn w H
      rw [← htk] at H
      (first | (refine H.wg ?_; clear H; intros; rename_i w H; constructor) | refine wk ?_)
      exact ⟨(by repeat (first | exact trivial | refine ⟨rfl, ?_⟩)), (k + 1, rn), (by repeat (first | exact trivial | refine ⟨rfl, ?_⟩)), ⟨by omega, H.sx⟩, by omega⟩
  · have hz : (2 * ((0 - (n + 1)) % 18446744073709551616) % 18446744073709551616 + 1) % 18446744073709551616 = (zz n : Nat) := by unfold zz; rw [if_neg h0]; omega
    (first | (refine H.wg ?_; clear H; intros; rename_i w H; constructor) | refine wk ?_)
    replace H := H.rowNil 3 1
    refine SemC.cut 0 (fun r : Sl => [(4, r.v)]) (fun r w' => Rel W V [.row r 3 1 ((grps (zz n)).flatMap itC)] V w') ?_ ?_
    · refine loop_inv (S := Nat × Sl × List Int) tabOk [0, 2, 5, 6, 8, 36, 43] (fun k => [(3, .int .u64 k.1), (4, k.2.1.v)]) (fun k w' => k.1 < 18446744073709551616 ∧ k.2.2 ++ (if k.2.2 ≠ [] ∧ k.1 = 0 then [] else grps k.1) = grps (zz n) ∧ Rel W V [.row k.2.1 3 1 (k.2.2.flatMap itC)] V w') (fun k _ => if k.2.2 = [] then k.1 + 1 else k.1) (zz n, ⟨none, 0, 0⟩, []) ?_
      (conv => whnf)
      refine ⟨⟨congrArg (fun z => some (Value.int .u64 z)) hz, rfl, trivial⟩, ⟨hzl, by simp, H.sx⟩, ?_⟩
      clear H
      rintro ⟨u, r, G⟩ w ⟨hu, ho, H⟩
      dsimp only at hu ho H
      have hrl := H.rowLen (i := 0) rfl (fun _ => rfl) (by decide)
      have hrl' : (u, r, G).snd.fst.len = r.len := rfl
      have hol := congrArg List.length ho
      simp only [List.length_append] at hol
      by_cases hd : G ≠ [] ∧ u = 0
      · have hG : 0 < G.length := List.length_pos_iff.2 hd.1
        rw [if_pos hd, List.append_nil] at ho
        obtain ⟨_, hd⟩ := hd
        (first | (refine H.wg ?_; clear H; intros; rename_i w H; constructor) | refine wk ?_)
        exact ⟨r, (by repeat (first | exact trivial | refine ⟨rfl, ?_⟩)), by rw [← ho]; exact H⟩
      rw [if_neg hd] at ho hol
      have hG : G = [] ∨ 0 < u := by
        by_cases hG : G = []
        · exact .inl hG
        · exact .inr (Nat.pos_of_ne_zero fun h0 => hd ⟨hG, h0⟩)
      clear hd
      have hgp := grps_pos u
      have hq : ((u : Int) / 128) % 18446744073709551616 = ((u / 128 : Nat) : Int) := by omega
      have hnext : (G ++ [((u % 128 : Nat) : Int)]) ++ (if (G ++ [((u % 128 : Nat) : Int)]) ≠ [] ∧ u / 128 = 0 then [] else grps (u / 128)) = grps (zz n) := by
        rw [← ho]
        by_cases h128 : u < 128
        · rw [if_pos ⟨by simp, by omega⟩, grps_small h128, show u % 128 = u by omega]; simp
        · rw [if_neg (by omega), grps_big h128]; simp
      have hmu : (if (G ++ [((u % 128 : Nat) : Int)]) = [] then u / 128 + 1 else u / 128) < (if G = [] then u + 1 else u) := by
        rw [if_neg (by simp)]
        rcases hG with rfl | hG
        · simp; omega
        · split <;> omega
      rcases hG with rfl | hG
      · simp only [List.length_nil] at hrl hol
        have hrl' : (u, r, ([] : List Int)).snd.fst.len = r.len := rfl
        (first | (refine H.wg ?_; clear H; intros; rename_i w H; constructor) | refine wk ?_)
        refine Rel.app1_0 (f := itC) (l := []) (x := ((u % 128 : Nat) : Int)) tabOk rfl rfl rfl rfl rfl (by decide) (fun _ => rfl) (by simp [Value.oneCell']) H (by simp) (by simp) ?_
        clear H
        intro rn w H
        (first | (refine H.wg ?_; clear H; intros; rename_i w H; constructor) | refine wk ?_)
        exact ⟨(by repeat (first | exact trivial | refine ⟨rfl, ?_⟩)), (u / 128, rn, [((u % 128 : Nat) : Int)]), ⟨congrArg (fun z => some (Value.int .u64 z)) hq, rfl, trivial⟩, ⟨by dsimp only; omega, hnext, H.sx⟩, hmu⟩
      · by_cases hr0 : r.len = 0
        all_goals
          (first | (refine H.wg ?_; clear H; intros; rename_i w H; constructor) | refine wk ?_)
          refine Rel.app1_0 (f := itC) (x := ((u % 128 : Nat) : Int)) tabOk rfl rfl rfl rfl rfl (by decide) (fun _ => rfl) (by simp [Value.oneCell']) H (by simp; omega) (by omega) ?_
          clear H
          intro rn w H
          (first | (refine H.wg ?_; clear H; intros; rename_i w H; constructor) | refine wk ?_)
          exact ⟨(by repeat (first | exact trivial | refine ⟨rfl, ?_⟩)), (u / 128, rn, G ++ [((u % 128 : Nat) : Int)]), ⟨congrArg (fun z => some (Value.int .u64 z)) hq, rfl, trivial⟩, ⟨by dsimp only; omega, hnext, H.sx⟩, hmu⟩
    clear H
    rintro r w H
    obtain ⟨V1, hV1, H, hr⟩ := Rel.freezeF H (fun _ => rfl) (by decide)
    have hrl := hr.len
    replace H := H.rowNil 5 1
    (first | (refine H.wg ?_; clear H; intros; rename_i w H; constructor) | refine wk ?_)
    refine loop_inv (S := Nat × Sl) tabOk [0, 2, 3, 4, 8, 24] (fun k => [(5, k.2.v), (6, iv k.1)]) (fun k w' => k.1 ≤ (grps (zz n)).length ∧ Rel W V [.row k.2 5 1 (((putU (zz n)).take k.1).flatMap byC)] V1 w') (fun k _ => (grps (zz n)).length - k.1) (0, ⟨none, 0, 0⟩) ?_
    (conv => whnf)
    refine ⟨(by repeat (first | exact trivial | refine ⟨rfl, ?_⟩)), ⟨by omega, H.sx⟩, ?_⟩
    clear H
    rintro ⟨k, o⟩ w ⟨hk, H⟩
    dsimp only at hk H
    by_cases hlt : k < (grps (zz n)).length
    rotate_left
    · (first | (refine H.wg ?_; clear H; intros; rename_i w H; constructor) | refine wk ?_)
      rw [List.take_of_length_le (by omega)] at H
      exact ⟨o, rfl, H.back⟩
    obtain ⟨g, hg1, hg2, hg3⟩ := hgr k hlt
    obtain ⟨hp, hc⟩ := hr.at1 (g := iv) (fun _ => rfl) hlt
    have hgk : (grps (zz n))[k] = g := by rw [List.getElem?_eq_getElem hlt] at hg1; exact Option.some.inj hg1
    have hkp : k < (putU (zz n)).length := by omega
    have htk : (putU (zz n)).take (k + 1) = (putU (zz n)).take k ++ [UInt8.ofNat (if k + 1 < (grps (zz n)).length then g + 128 else g)] := by
      rw [List.take_succ_eq_append_getElem hkp]
      rw [List.getElem?_eq_getElem hkp] at hg3
      rw [Option.some.inj hg3]
    rw [hgk] at hc
    by_cases hlast : k + 1 < (grps (zz n)).length
    · rw [if_pos hlast] at htk
      have hb : ((g : Int) + 128) % 256 = ((g + 128 : Nat) : Int) := by omega
      (first | (refine H.wg ?_; clear H; intros; rename_i w H; constructor) | refine wk ?_)
      refine Rel.app1_0 (f := byC) (x := UInt8.ofNat (g + 128)) tabOk rfl rfl rfl rfl rfl (by decide) (fun _ => rfl) (by simp [Value.oneCell']) (H.blkEq (bv_ofNat (n := g + 128) (by omega) hb)) (by simp; omega) (by simp; omega) ?_
      clear H
      intro rn w H
      rw [← htk] at H
      (first | (refine H.wg ?_; clear H; intros; rename_i w H; constructor) | refine wk ?_)
      exact ⟨(by repeat (first | exact trivial | refine ⟨rfl, ?_⟩)), (k + 1, rn), (by repeat (first | exact trivial | refine ⟨rfl, ?_⟩)), ⟨by omega, H.sx⟩, by omega⟩
    · rw [if_neg hlast] at htk
      have hb : (g : Int) % 256 = (g : Nat) := by omega
      (first | (refine H.wg ?_; clear H; intros; rename_i w H; constructor) | refine wk ?_)
      refine Rel.app1_0 (f := byC) (x := UInt8.ofNat g) tabOk rfl rfl rfl rfl rfl (by decide) (fun _ => rfl) (by simp [Value.oneCell']) (H.blkEq (bv_ofNat (n := g) (by omega) hb)) (by simp; omega) (by simp; omega) ?_
      clear H
      intro rn w H
      rw [← htk] at H
      (first | (refine H.wg ?_; clear H; intros; rename_i w H; constructor) | refine wk ?_)
      exact ⟨(by repeat (first | exact trivial | refine ⟨rfl, ?_⟩)), (k + 1, rn), (by repeat (first | exact trivial | refine ⟨rfl, ?_⟩)), ⟨by omega, H.sx⟩, by omega⟩
theorem putChunk_ref (hV : Sub V W) {x : Sl} {b : List UInt8} (hx : Byt V x b) (hl : b.length ≤ 1099511626000) : Ret Tryz.prog 33 [x.v].toArray W fun v w' => ∃ r : Sl, v = r.v ∧ Rel W V [.row r 5 1 ((putC b).flatMap byC)] V w' := by
  have H := Rel.start hV
  have hxl := hx.len
  have hp := putN_len (n := b.length) (by omega) (by omega)
  refine cal_of_vc tabOk Tryz.func33 rfl (by kernel_rfl) 8 rfl (by simp) [0, 2] ?_
  (first | (refine H.wg ?_; clear H; intros; rename_i w H; constructor) | refine wk ?_)
  rw [hxl]
  refine (put_ref (n := b.length) H.data (by constructor <;> omega)).use ?_
  rintro v w ⟨r, rfl, K⟩
  replace H := H.call K
  obtain ⟨V1, hV1, H, hr⟩ := Rel.freezeF H (fun _ => rfl) (by decide)
  (first | (refine H.wg ?_; clear H; intros; rename_i w H; constructor) | refine wk ?_)
  refine (join_ref H.data hr (hx.up hV1) (by omega)).use ?_
  rintro v w ⟨rn, rfl, K⟩
  replace H := H.call K
  (first | (refine H.wg ?_; clear H; intros; rename_i w H; constructor) | refine wk ?_)
  exact ⟨rn, rfl, H.back⟩
end
end Go.Proofs.YtffaffojkfalhaaGreatDoor
namespace Go.Proofs.YtffaffojkfalhaaGreatDoor
open Go Go.RowKit

abbrev faultV (c i : Int) : Value := .agg #[iv c, iv i]
theorem at_ref {V W : World} (hV : Sub V W) (c i : Int) : Ret Tryz.prog 11 [iv c, iv i].toArray W fun v w' => v = faultV c i ∧ Rel W V [] V w' := by
  have H := Rel.start hV
  refine cal_of_vc tabOk Tryz.func11 rfl (by kernel_rfl) 8 rfl (by simp) [0, 1, 4] ?_
  (first | (refine H.wg ?_; clear H; intros; rename_i w H; constructor) | refine wk ?_)
  exact H.sx
end Go.Proofs.YtffaffojkfalhaaGreatDoor
