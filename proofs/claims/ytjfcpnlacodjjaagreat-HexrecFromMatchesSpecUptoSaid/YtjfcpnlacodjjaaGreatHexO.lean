/-
  Files of hexadecimal records, the reference: HexShape, hexLine, HexFile.
-/
import Derived.Test.YtjfcpnlacodjjaaGreatHexP
import Derived.Test.YtjfcpnlacodjjaaGreatHexM
import Derived.Test.YtjfcpnlacodjjaaGreatHexI
import Derived.Test.YtjfcpnlacodjjaaGreatStrA
import Derived.Test.YtjfcpnlacodjjaaGreatLibD
namespace Go.Proofs.YtjfcpnlacodjjaaGreat
open Go Go.RowKit

section
variable {w0 V0 V w : World} {own : List Res}
/-- the bytes of a string, owned -/
theorem Rel.convSR {P : Program} {src dst e : TypeId} (hs : P.underlying src = some .string) (hd : P.underlying dst = some (.slice e)) (he : P.underlying e = some (.int .u8)) (H : Rel w0 V0 own V w) (l : List UInt8) (hl : l.length ≤ maxLen) {k : Value → World → Prop}
    (hk : ∀ s w', Rel w0 V0 (.row s e 1 (l.flatMap byC) :: own) V w' → k s.v w') : SemOk P (convert src dst (str l)) w k := by
  refine .of (run_bytes_of_string w src dst e _ hs hd he) ?_
  have hz : (ByteArray.size ⟨l.toArray⟩) = l.length := rfl
  rw [hz]
  have hge := grownCap_ge w l.length 0 e
  have hsz : (bytesRow ⟨l.toArray⟩ (grownCap w l.length 0 e)).size = grownCap w l.length 0 e := by
    simp only [bytesRow, Array.size_append, Array.size_map, Array.size_replicate, List.size_toArray, hz]
    omega
  refine hk ⟨some ⟨w.heap.size, 0, none⟩, l.length, _⟩ _ (Rel.put (i := 0) (H.rowNil e 1) rfl rfl rfl rfl (by simp) (fun c hc _ => by first | exact heap_alloc_old w.drew _ hc | exact heap_alloc_old w.drew _ c hc) (show Row _ _ _ _ _ from ⟨by rw [byC_map]; simp, .inr ⟨w.heap.size, _, rfl, ⟨_, heap_alloc_new w.drew _, fun j hj h => ?_⟩, hge, grownCap_le_maxLen w _ 0 e hl, by rw [hsz]; exact (Nat.mul_one _).symm, ?_⟩⟩) fun b hb => .inr ?_)
  · simp only at h
    omega
  · rw [byC_map, bytesRow]
    simp
  · simp only [Res.at_, Option.map_some, Option.some.injEq] at hb
    omega
end
theorem hex_digs : digL true = [48, 49, 50, 51, 52, 53, 54, 55, 56, 57, 97, 98, 99, 100, 101, 102] := by decide +kernel
theorem hex_cut1 {n : Nat} (h : n < 16) : (([48, 49, 50, 51, 52, 53, 54, 55, 56, 57, 97, 98, 99, 100, 101, 102] : List UInt8).take (n + 1)).drop n = [hdC true n] := by
  have : ∀ n, n < 16 → (([48, 49, 50, 51, 52, 53, 54, 55, 56, 57, 97, 98, 99, 100, 101, 102] : List UInt8).take (n + 1)).drop n = [hdC true n] := by decide +kernel
  exact this n h
/-- a small letter of a digit made great -/
def upB (c : UInt8) : UInt8 := if 97 ≤ c.toNat ∧ c.toNat ≤ 102 then UInt8.ofNat (c.toNat - 32) else c
theorem upB_dig : ∀ n : Nat, n < 16 → upB (hdC true n) = hdC false n := by decide +kernel
theorem upB_hex (l : List UInt8) : (hexB true l).map upB = hexB false l := by
  induction l with
  | nil => rfl
  | cons c l ih =>
    have h := byte_hl c
    simp only [hexB, List.flatMap_cons, List.map_append, List.map_cons, List.map_nil] at ih ⊢
    rw [upB_dig _ h.1, upB_dig _ h.2.1, ih]
section
variable {V W : World}
set_option maxRecDepth 100000 in
theorem hex_ref (hV : Sub V W) {n : Nat} (hn : n < 256) : Ret Tryz.prog 54 [iv (n : Int)].toArray W fun v w' => v = str [hdC true (n / 16), hdC true (n % 16)] ∧ Rel W V [] V w' := by
  have H := Rel.start hV
  have e1 : ((n : Int) / 16).toNat = n / 16 := by omega
  have e2 : ((n : Int) / 16 + 1).toNat = n / 16 + 1 := by omega
  have e3 : ((n : Int) % 16).toNat = n % 16 := by omega
  have e4 : ((n : Int) % 16 + 1).toNat = n % 16 + 1 := by omega
  refine cal_of_vc tabOk Tryz.func54 rfl (by kernel_rfl) 16 rfl (by simp) [0, 2] ?_
  (first | (refine H.wg ?_; clear H; intros; rename_i w H; constructor) | refine wk ?_)
  ((first | refine draw_vc (id := 1) tabOk mixed [] [0, 1, 2, 3, 4, 5, 6, 7, 8, 9, 10, 11, 12, 13] (by kernel_rfl) ?_); intro w hdw; replace H := Rel.ext H hdw.ext)
  (first | (refine H.wg ?_; clear H; intros; rename_i w H; constructor) | refine wk ?_)
  refine ⟨⟨by omega, by show _ ≤ (16 : Int); omega⟩, ?_⟩
  (first | (refine H.wg ?_; clear H; intros; rename_i w H; constructor) | refine wk ?_)
  refine ⟨⟨by omega, by show _ ≤ (16 : Int); omega⟩, ?_⟩
  (first | (refine H.wg ?_; clear H; intros; rename_i w H; constructor) | refine wk ?_)
  rw [e1, e2, e3, e4, hex_cut1 (n := n / 16) (by omega), hex_cut1 (n := n % 16) (by omega)]
  (first | (refine H.wg ?_; clear H; intros; rename_i w H; constructor) | refine wk ?_)
  refine ⟨by simp, ?_⟩
  (first | (refine H.wg ?_; clear H; intros; rename_i w H; constructor) | refine wk ?_)
  first | exact H.sx | exact ⟨rfl, H.sx⟩
theorem half_get {g : UInt8 → UInt8} {T : List UInt8} {i : Nat} (h : i < T.length) (h' : i < ((T.take i).map g ++ T.drop i).length) : ((T.take i).map g ++ T.drop i)[i] = T[i] := by
  rw [List.getElem_append_right (by simp; omega)]
  simp only [List.length_map, List.length_take, List.getElem_drop]
  congr 1
  omega
theorem half_set {g : UInt8 → UInt8} {T : List UInt8} {i : Nat} (h : i < T.length) : ((T.take i).map g ++ T.drop i).set i (g T[i]) = (T.take (i + 1)).map g ++ T.drop (i + 1) := by
  rw [List.set_append_right _ _ (by simp; omega), List.drop_eq_getElem_cons h, List.take_succ_eq_append_getElem h, List.map_append]
  simp only [List.length_map, List.length_take, Nat.min_eq_left (Nat.le_of_lt h), Nat.sub_self, List.set_cons_zero, List.map_cons, List.map_nil, List.append_assoc, List.cons_append, List.nil_append]
theorem half_keep {T : List UInt8} {i : Nat} (g : UInt8 → UInt8) (h : i < T.length) (hg : g T[i] = T[i]) : (T.take i).map g ++ T.drop i = (T.take (i + 1)).map g ++ T.drop (i + 1) := by
  rw [← half_set h, hg]
  symm
  have : ((T.take i).map g ++ T.drop i)[i]'(by simp; omega) = T[i] := half_get h _
  rw [← this, List.set_getElem_self]
theorem byC_put {l : List UInt8} {i : Nat} {c : UInt8} : (l.flatMap byC).set i (bv c) = (l.set i c).flatMap byC := by
  rw [byC_map, byC_map, List.map_set]
def caseF (fl : Nat) (c : UInt8) : UInt8 := if fl % 2 = 0 then upB c else c
theorem caseF_line (fl : Nat) (raw : List UInt8) : (58 :: hexB true raw).map (caseF fl) = 58 :: hexB (lowF fl) raw := by
  by_cases h : fl % 2 = 0
  · have e : caseF fl = upB := by funext c; unfold caseF; rw [if_pos h]
    rw [e, List.map_cons, upB_hex, show lowF fl = false from decide_eq_false (by omega)]
    rfl
  · have e : caseF fl = id := by funext c; unfold caseF; rw [if_neg h]; rfl
    rw [e, List.map_id, show lowF fl = true from decide_eq_true (by omega)]
theorem sumC_nat (raw : List UInt8) : (sumC raw).toNat = (256 - sumB raw % 256) % 256 := by
  unfold sumC
  rw [UInt8.toNat_ofNat']
theorem up_cell {c : UInt8} (h : 97 ≤ c.toNat ∧ c.toNat ≤ 102) : Value.int .u8 (wr .u8 ((c.toNat : Int) - 32)) = bv (upB c) := by
  have e : upB c = UInt8.ofNat (c.toNat - 32) := by unfold upB; rw [if_pos h]
  rw [e]
  unfold bv
  rw [toNat_ofNat_lt (by omega)]
  congr 1
  show ((c.toNat : Int) - 32) % 256 = _
  omega
set_option maxRecDepth 100000 in
set_option maxHeartbeats 1000000 in
theorem hexLine_ref (hV : Sub V W) {s : Sl} {raw : List UInt8} (hs : Byt V s raw) (hl : raw.length ≤ 300) {fl : Nat} (hf : fl < 4) : Ret Tryz.prog 32 [s.v, iv (fl : Int)].toArray W fun v w' => ∃ (V' : World) (r : Sl), Sub V V' ∧ Rel W V [] V' w' ∧ v = r.v ∧ Byt V' r (lineB fl (raw ++ [sumC raw])) := by
  have H := Rel.start hV
  have hlen := hs.len
  refine cal_of_vc tabOk Tryz.func32 rfl (by kernel_rfl) 73 rfl (by simp) [0, 1, 4, 5, 6, 7, 8, 9, 13, 43, 56, 66] ?_
  (first | (refine H.wg ?_; clear H; intros; rename_i w H; constructor) | refine wk ?_)
  refine loop_inv (S := Nat) tabOk [0, 1, 4, 8, 9, 43, 56, 66] (fun k => [(5, iv ((sumB (raw.take k) : Nat) : Int)), (6, str (hexB true (raw.take k))), (7, iv k)]) (fun k w' => k ≤ raw.length ∧ Rel W V [] V w') (fun k _ => raw.length - k) 0 ?_
  (conv => whnf)
  refine ⟨(by repeat (first | exact trivial | refine ⟨rfl, ?_⟩)), ⟨by omega, H⟩, ?_⟩
  clear H
  rintro k w ⟨hk, H⟩
  have hsb := sumB_le (raw.take k)
  have hbl := hexB_len true (raw.take k)
  rw [List.length_take] at hsb hbl
  by_cases hlt : k < raw.length
  · obtain ⟨p0, c0⟩ := hs.at1 (g := bv) (fun _ => rfl) hlt
    have hst := sumB_step hlt
    have ht := List.take_succ_eq_append_getElem hlt
    obtain ⟨y, hy⟩ : ∃ y, y = raw[k] := ⟨_, rfl⟩
    rw [← hy] at c0 ht hst
    have hyl := y.toNat_lt
    obtain ⟨z, hz⟩ : ∃ z, z = sumB (raw.take k) := ⟨_, rfl⟩
    rw [← hz] at hst hsb ⊢
    (first | (refine H.wg ?_; clear H; intros; rename_i w H; constructor) | refine wk ?_)
    refine (hex_ref (n := y.toNat) H.data hyl).use ?_
    rintro v w ⟨rfl, K⟩
    (have hKb := K.base; replace H := H.call0 K)
    (first | (refine H.wg ?_; clear H; intros; rename_i w H; constructor) | refine wk ?_)
    refine ⟨by simp only [List.length_cons, List.length_nil]; omega, ?_⟩
    (first | (refine H.wg ?_; clear H; intros; rename_i w H; constructor) | refine wk ?_)
    exact ⟨(by repeat (first | exact trivial | refine ⟨rfl, ?_⟩)), k + 1, ⟨congrArg (fun z => some (iv z)) (by rw [hst]; omega), by rw [ht, hexB_snoc]; rfl, congrArg (fun z => some (iv z)) (by omega), trivial⟩, ⟨by omega, H⟩, by omega⟩
  obtain rfl : k = raw.length := by omega
  rw [List.take_length] at hsb hbl ⊢
  obtain ⟨z, hz⟩ : ∃ z, z = sumB raw := ⟨_, rfl⟩
  have hsc := sumC_nat raw
  rw [← hz] at hsb hsc ⊢
  have e0 : (256 - (z : Int) % 256) % 256 = (((256 - z % 256) % 256 : Nat) : Int) := by omega
  (first | (refine H.wg ?_; clear H; intros; rename_i w H; constructor) | refine wk ?_)
  refine ⟨by simp only [List.length_cons, List.length_nil]; omega, ?_⟩
  (first | (refine H.wg ?_; clear H; intros; rename_i w H; constructor) | refine wk ?_)
  rw [e0]
  refine (hex_ref (n := (256 - z % 256) % 256) H.data (by omega)).use ?_
  rintro v w ⟨rfl, K⟩
  (have hKb := K.base; replace H := H.call0 K)
  (first | (refine H.wg ?_; clear H; intros; rename_i w H; constructor) | refine wk ?_)
  refine ⟨by simp only [List.length_cons, List.length_nil, List.length_append]; omega, ?_⟩
  (first | (refine H.wg ?_; clear H; intros; rename_i w H; constructor) | refine wk ?_)
  refine Rel.convSR Tryz.underlying9 Tryz.underlying22 Tryz.underlying5 H _ (by simp [maxLen]; omega) ?_
  clear H
  intro r w H
  obtain ⟨T, hT⟩ : ∃ T, T = 58 :: hexB true (raw ++ [sumC raw]) := ⟨_, rfl⟩
  have hTl : T.length = 2 * raw.length + 3 := by
    rw [hT, List.length_cons, hexB_len, List.length_append, List.length_singleton]
    omega
  have hTc := caseF_line fl (raw ++ [sumC raw])
  rw [← hT] at hTc
  rw [hexB_snoc, hsc] at hT
  rw [show ([58] ++ hexB true raw ++ [hdC true ((256 - z % 256) % 256 / 16), hdC true ((256 - z % 256) % 256 % 16)] : List UInt8) = T by rw [hT]; rfl] at H
  have hrl : r.len = T.length := H.rowLen (i := 0) rfl (fun _ => rfl) (by decide)
  clear hT
  (first | (refine H.wg ?_; clear H; intros; rename_i w H; constructor) | refine wk ?_)
  refine loop_inv (S := Nat) tabOk [0, 1, 4, 5, 6, 7, 8, 13, 66] (fun i => [(9, iv i)]) (fun i w' => i ≤ T.length ∧ Rel W V [.row r 5 1 (((T.take i).map (caseF fl) ++ T.drop i).flatMap byC)] V w') (fun i _ => T.length - i) 0 ?_
  (conv => whnf)
  refine ⟨(by repeat (first | exact trivial | refine ⟨rfl, ?_⟩)), ⟨by omega, H⟩, ?_⟩
  clear H
  rintro i w ⟨hi, H⟩
  by_cases hlt : i < T.length
  · have hU : ((T.take i).map (caseF fl) ++ T.drop i).length = T.length := by simp; omega
    have hg := half_get (g := caseF fl) hlt (by omega)
    have hset := half_set (g := caseF fl) hlt
    have hkeep := half_keep (caseF fl) hlt
    obtain ⟨y, hy⟩ : ∃ y, y = T[i] := ⟨_, rfl⟩
    rw [← hy] at hg hset hkeep
    have hyl := y.toNat_lt
    by_cases hp : fl % 2 = 0
    · have hcf : caseF fl y = upB y := if_pos hp
      (first | (refine H.wg ?_; clear H; intros; rename_i w H; constructor) | refine wk ?_)
      obtain ⟨p0, c0⟩ := (H.slfAt (i := 0) rfl (fun _ => rfl) (by decide)).at1 (g := bv) (fun _ => rfl) (i := i) (by omega)
      rw [hg] at c0
      (first | (refine H.wg ?_; clear H; intros; rename_i w H; constructor) | refine wk ?_)
      refine (in_ref (y.toNat : Int) 97 102 w).use ?_
      rintro q w' ⟨rfl, rfl⟩
      by_cases h9 : 97 ≤ y.toNat ∧ y.toNat ≤ 102
      · rw [decide_eq_true (show (97 : Int) ≤ (y.toNat : Int) ∧ (y.toNat : Int) ≤ 102 by omega)]
        (first | (refine H.wg ?_; clear H; intros; rename_i w H; constructor) | refine wk ?_)
        obtain ⟨p0, c0⟩ := (H.slfAt (i := 0) rfl (fun _ => rfl) (by decide)).at1 (g := bv) (fun _ => rfl) (i := i) (by omega)
        rw [hg] at c0
        (first | (refine H.wg ?_; clear H; intros; rename_i w H; constructor) | refine wk ?_)
        rw [up_cell h9]
        refine Rel.stRow (i := 0) H rfl i (by omega) rfl rfl ?_
        clear H
        intro w H
        simp only [List.set_cons_zero] at H
        rw [hcf] at hset
        rw [byC_put, hset] at H
        (first | (refine H.wg ?_; clear H; intros; rename_i w H; constructor) | refine wk ?_)
        exact ⟨(by repeat (first | exact trivial | refine ⟨rfl, ?_⟩)), i + 1, (by repeat (first | exact trivial | refine ⟨rfl, ?_⟩)), ⟨by omega, H⟩, by omega⟩
      · rw [decide_eq_false (show ¬ ((97 : Int) ≤ (y.toNat : Int) ∧ (y.toNat : Int) ≤ 102) by omega)]
        rw [hkeep (by rw [hcf]; exact if_neg h9)] at H
        (first | (refine H.wg ?_; clear H; intros; rename_i w H; constructor) | refine wk ?_)
        exact ⟨(by repeat (first | exact trivial | refine ⟨rfl, ?_⟩)), i + 1, (by repeat (first | exact trivial | refine ⟨rfl, ?_⟩)), ⟨by omega, H⟩, by omega⟩
    · rw [hkeep (if_neg hp)] at H
      (first | (refine H.wg ?_; clear H; intros; rename_i w H; constructor) | refine wk ?_)
      exact ⟨(by repeat (first | exact trivial | refine ⟨rfl, ?_⟩)), i + 1, (by repeat (first | exact trivial | refine ⟨rfl, ?_⟩)), ⟨by omega, H⟩, by omega⟩
  obtain rfl : i = T.length := by omega
  rw [List.take_length, List.drop_length, List.append_nil, hTc] at H
  have hLl : (58 :: hexB (lowF fl) (raw ++ [sumC raw])).length = T.length := by rw [← hTc, List.length_map]
  obtain ⟨L, hL⟩ : ∃ L, L = 58 :: hexB (lowF fl) (raw ++ [sumC raw]) := ⟨_, rfl⟩
  have hline : lineB fl (raw ++ [sumC raw]) = L ++ endB fl := by rw [hL]; rfl
  rw [← hL] at H hLl
  rw [hline]
  by_cases h2 : 2 ≤ fl
  · rw [show endB fl = [13, 10] from if_pos h2]
    (first | (refine H.wg ?_; clear H; intros; rename_i w H; constructor) | refine wk ?_)
    refine Rel.app1_0 (f := byC) (s := r) (l := L) (x := 13) tabOk rfl rfl rfl rfl rfl (by decide) (fun _ => rfl) (by simp [Value.oneCell']) H (by show (L.length + 1) * 1 ≤ _; omega) (by omega) ?_
    clear H
    intro r2 w H
    (first | (refine H.wg ?_; clear H; intros; rename_i w H; constructor) | refine wk ?_)
    refine Rel.app1_0 (f := byC) (s := r2) (l := L ++ [13]) (x := 10) tabOk rfl rfl rfl rfl rfl (by decide) (fun _ => rfl) (by simp [Value.oneCell']) H (by show ((L ++ [13]).length + 1) * 1 ≤ _; rw [List.length_append, List.length_singleton]; omega) (by rw [List.length_append, List.length_singleton]; omega) ?_
    clear H
    intro r3 w H
    rw [List.append_assoc] at H
    obtain ⟨V2, hV2, H, hr3⟩ := Rel.freezeF H (fun _ => rfl) (by decide)
    (first | (refine H.wg ?_; clear H; intros; rename_i w H; constructor) | refine wk ?_)
    exact ⟨V2, r3, hV2, H.sx, rfl, hr3⟩
  · rw [show endB fl = [10] from if_neg h2]
    (first | (refine H.wg ?_; clear H; intros; rename_i w H; constructor) | refine wk ?_)
    refine Rel.app1_0 (f := byC) (s := r) (l := L) (x := 10) tabOk rfl rfl rfl rfl rfl (by decide) (fun _ => rfl) (by simp [Value.oneCell']) H (by show (L.length + 1) * 1 ≤ _; omega) (by omega) ?_
    clear H
    intro r3 w H
    obtain ⟨V2, hV2, H, hr3⟩ := Rel.freezeF H (fun _ => rfl) (by decide)
    (first | (refine H.wg ?_; clear H; intros; rename_i w H; constructor) | refine wk ?_)
    exact ⟨V2, r3, hV2, H.sx, rfl, hr3⟩
end
end Go.Proofs.YtjfcpnlacodjjaaGreat
namespace Go.Proofs.YtjfcpnlacodjjaaGreat
open Go Go.RowKit

theorem hexShape_none {v r : Val} (h3 : v.kind = 3) (hm : r ∈ v.parts) (h : segOf r = none) : hexShape v = none := by
  unfold hexShape
  rw [if_pos h3]
  exact allM_none hm h
theorem pair_of {v : Val} (h : v.parts.length = 2) : ∃ a d, v.parts = [a, d] := by
  match hp : v.parts, h with
  | [a, d], _ => exact ⟨a, d, rfl⟩
theorem segOf_inv {r : Val} {s : Seg} (h : segOf r = some s) : ∃ a d, r.parts = [a, d] ∧ a.num = (s.1 : Int) ∧ d.bytes = s.2 := by
  unfold segOf at h
  split at h
  · split at h
    · rename_i a d hp
      split at h
      · rename_i hc
        cases h
        exact ⟨a, d, hp, by dsimp only; omega, rfl⟩
      · cases h
    · cases h
  · cases h
theorem hexShape_at {v : Val} {S : List Seg} (h : hexShape v = some S) {k : Nat} (hk : k < v.parts.length) (hk' : k < S.length) : segOf v.parts[k] = some S[k] := by
  unfold hexShape at h
  split at h
  · exact (allM_some h).2 k _ _ (List.getElem?_eq_getElem hk) (List.getElem?_eq_getElem hk')
  · cases h
theorem hexRd_raw {b : List UInt8} {fl : Nat} {Z : List Nat} (hb : b ≠ []) (h : hexRd b = some (fl, Z)) : hexRaw b = some ((fl : Int), ints Z) := by
  unfold hexRd at h
  rw [if_neg hb] at h
  cases hw : hexRaw b with
  | none => rw [hw] at h; cases h
  | some x =>
    obtain ⟨c, z⟩ := x
    rw [hw] at h
    simp only at h
    split at h
    · rename_i hc
      cases h
      rw [Int.toNat_of_nonneg hc.1.1, ints_toNat hc.2.2]
    · cases h
theorem hx4_cells {n p : Nat} {x y z : Int} (hn : n ≤ 255) (hp : p < 65536) (hx : x = wr .u8 (n : Int)) (hy : y = wr .u8 ((p : Int) / 256)) (hz : z = wr .u8 ((p : Int) % 256)) : [Value.int .u8 x, Value.int .u8 y, Value.int .u8 z, Value.int .u8 0] = [UInt8.ofNat n, UInt8.ofNat (p / 256), UInt8.ofNat p, UInt8.ofNat 0].flatMap byC := by
  have e1 : wr .u8 ((p : Int) / 256) = ((p / 256 : Nat) : Int) := by show ((p : Int) / 256) % 256 = _; omega
  have e2 : wr .u8 ((p : Int) % 256) = ((p % 256 : Nat) : Int) := by show ((p : Int) % 256) % 256 = _; omega
  have e3 : wr .u8 (n : Int) = (n : Int) := by show (n : Int) % 256 = _; omega
  rw [hx, hy, hz, e1, e2, e3]
  simp only [List.flatMap_cons, List.flatMap_nil, byC, bv, List.cons_append, List.nil_append]
  rw [toNat_ofNat_lt (by omega), toNat_ofNat_lt (by omega), UInt8.toNat_ofNat']
  rfl
section
variable {V W : World}
set_option maxRecDepth 100000 in
set_option maxHeartbeats 1000000 in
theorem hxrShape_ref (hV : Sub V W) {h : VH} {v : Val} (hv : ValAt V h v) (hB : VB 1048576 v) (hf : (vfault v).1 = 0) : Ret Tryz.prog 7 [valV h].toArray W fun q w' => q = .bool (hexShape v).isSome ∧ Rel W V [] V w' := by
  have H := Rel.start hV
  have hv0 := hv
  have e1 := hv.kind
  have hpl := hv.plen
  have hcnt := valid_count hf
  obtain ⟨k, n, bs, ss, pl⟩ := h
  dsimp only at e1 hpl
  subst e1
  change Ret Tryz.prog 7 [.agg [iv v.kind, iv n, bs.v, ss.v, pl.v].toArray].toArray W _
  refine cal_of_vc tabOk Tryz.func7 rfl (by kernel_rfl) 66 rfl (by simp) [0, 1, 2, 3, 4, 5, 8, 13, 46, 65] ?_
  (first | (refine H.wh ?_; clear H; intros; rename_i w H; constructor) | refine wk ?_)
  ((first | refine Rel.nwD H ?_ | refine Rel.nw H ?_); clear H; intro w b1 H)
  by_cases h3 : v.kind = 3
  rotate_left
  · rw [show hexShape v = none by unfold hexShape; rw [if_neg h3]]
    (first | (refine H.wg ?_; clear H; intros; rename_i w H; constructor) | refine wk ?_)
    exact Rel.back H.sx
  have hsh : hexShape v = allM segOf v.parts := by unfold hexShape; rw [if_pos h3]
  (first | (refine H.wg ?_; clear H; intros; rename_i w H; constructor) | refine wk ?_)
  refine loop_inv (S := Nat × List Seg) tabOk [0, 1, 8] (fun q => [(3, iv q.1)]) (fun q w' => q.1 ≤ v.parts.length ∧ allM segOf (v.parts.take q.1) = some q.2 ∧ ∃ V2, Sub V V2 ∧ Rel W V [.blk b1 [iv v.kind, iv n, bs.v, ss.v, pl.v] 26] V2 w') (fun q _ => v.parts.length - q.1) (0, []) ?_
  (conv => whnf)
  refine ⟨(by repeat (first | exact trivial | refine ⟨rfl, ?_⟩)), ⟨by omega, rfl, V, Sub.refl _, H⟩, ?_⟩
  clear H
  rintro ⟨kk, S⟩ w ⟨hkk, hall, V2, hV2, H⟩
  dsimp only at hkk hall H ⊢
  by_cases hlt : kk < v.parts.length
  rotate_left
  · obtain rfl : kk = v.parts.length := by omega
    rw [List.take_length] at hall
    rw [hsh, hall]
    (first | (refine H.wg ?_; clear H; intros; rename_i w H; constructor) | refine wk ?_)
    exact Rel.back H.sx
  obtain ⟨hp0, x, hx, a0, a1, a2, a3, a4⟩ := (hv0.up hV2).part5 (i := kk) hlt
  obtain ⟨r, hr⟩ : ∃ r, r = v.parts[kk] := ⟨_, rfl⟩
  rw [← hr] at hx
  have hmem : r ∈ v.parts := by rw [hr]; exact List.getElem_mem hlt
  have hno : segOf r = none → hexShape v = none := fun h => hexShape_none h3 hmem h
  have hrB := hB.part r hmem
  have hnb := hrB.names
  have k1 := hx.kind
  have hrn := hx.names
  have hrl := hx.plen
  have hx0 := hx
  obtain ⟨xk, xn, xb, xs, xp⟩ := x
  dsimp only at k1 hrn hrl a0 a1 a2 a3 a4
  subst k1
  (first | (refine H.wh ?_; clear H; intros; rename_i w H; constructor) | refine wk ?_)
  ((first | refine Rel.nwD H ?_ | refine Rel.nw H ?_); clear H; intro w b4 H)
  (first | (refine H.wh ?_; clear H; intros; rename_i w H; constructor) | refine wk ?_)
  by_cases h4 : r.kind = 4
  rotate_left
  · rw [hno (segOf_no fun h => h4 h.1)]
    (first | (refine H.wg ?_; clear H; intros; rename_i w H; constructor) | refine wk ?_)
    exact Rel.back H.sx
  (first | (refine H.wh ?_; clear H; intros; rename_i w H; constructor) | refine wk ?_)
  ((first | refine Rel.nwD H ?_ | refine Rel.nw H ?_); clear H; intro w b27 H)
  obtain ⟨V3, hV3, H, hb27⟩ := H.freezeBlk
  have hnm : SlF strC V3 ⟨some ⟨b27, 0, none⟩, 2, 2⟩ [sAt, sData] := ⟨rfl, Nat.le_refl _, hb27.cells⟩
  (first | (refine H.wg ?_; clear H; intros; rename_i w H; constructor) | refine wk ?_)
  have hV23 := hV2.trans hV3
  refine (strings_ref H.data (hrn.up hV3) hnm (by omega)).use ?_
  rintro q w ⟨rfl, K⟩
  (have hKb := K.base; replace H := Rel.call H K)
  simp only [List.nil_append] at H
  by_cases hnn : r.names = [sAt, sData]
  rotate_left
  · rw [decide_eq_false hnn, hno (segOf_no fun h => hnn h.2)]
    (first | (refine H.wg ?_; clear H; intros; rename_i w H; constructor) | refine wk ?_)
    exact Rel.back H.sx
  rw [decide_eq_true hnn]
  have h2 : r.parts.length = 2 := by rw [← valid_part hf hmem h4, hnn]; rfl
  obtain ⟨a, d, hps⟩ := pair_of h2
  have hseg := segOf_two ⟨h4, hnn⟩ hps
  obtain ⟨_, xa, hxa, c0, c1, c2, c3, c4⟩ := (hx0.up hV3).part5 (i := 0) (by omega)
  obtain ⟨_, xd, hxd, d0, d1, d2, d3, d4⟩ := (hx0.up hV3).part5 (i := 1) (by omega)
  have g0 : r.parts[0] = a := by simp [hps]
  have g1 : r.parts[1] = d := by simp [hps]
  rw [g0] at hxa
  rw [g1] at hxd
  have ka := hxa.kind
  have na := hxa.num
  have kd := hxd.kind
  have hdb := hxd.bytes
  have hdl := hdb.len
  have hdB := (hrB.part d (by rw [hps]; simp)).bytes
  obtain ⟨ak, an, ab, al, ap⟩ := xa
  obtain ⟨dk, dn, db, ds, dp⟩ := xd
  dsimp only at ka na kd hdb hdl c0 c1 c2 c3 c4 d0 d1 d2 d3 d4
  subst ka na kd
  have bad : ¬ (a.kind = 1 ∧ d.kind = 2 ∧ 0 ≤ a.num ∧ a.num < 65536 ∧ d.bytes ≠ [] ∧ (d.bytes.length : Int) ≤ 65536 - a.num) → hexShape v = none := fun h => hno (by rw [hseg, if_neg h])
  by_cases q1 : a.kind = 1
  rotate_left
  · rw [bad fun h => q1 h.1]
    (first | (refine H.wg ?_; clear H; intros; rename_i w H; constructor) | refine wk ?_)
    exact Rel.back H.sx
  by_cases q2 : d.kind = 2
  rotate_left
  · rw [bad fun h => q2 h.2.1]
    (first | (refine H.wg ?_; clear H; intros; rename_i w H; constructor) | refine wk ?_)
    exact Rel.back H.sx
  by_cases q5 : d.bytes.length = 0
  · rw [bad fun h => h.2.2.2.2.1 (List.eq_nil_of_length_eq_zero q5)]
    (first | (refine H.wg ?_; clear H; intros; rename_i w H; constructor) | refine wk ?_)
    exact Rel.back H.sx
  (first | (refine H.wg ?_; clear H; intros; rename_i w H; constructor) | refine wk ?_)
  refine (in_ref a.num 0 (65536 - db.len) w).use ?_
  rintro q w' ⟨rfl, rfl⟩
  by_cases q6 : 0 ≤ a.num ∧ a.num ≤ 65536 - (db.len : Int)
  rotate_left
  · rw [decide_eq_false q6, bad fun h => q6 ⟨h.2.2.1, by omega⟩]
    (first | (refine H.wg ?_; clear H; intros; rename_i w H; constructor) | refine wk ?_)
    exact Rel.back H.sx
  rw [decide_eq_true q6]
  rw [if_pos ⟨q1, q2, q6.1, by omega, fun e => q5 (by rw [e]; rfl), by omega⟩] at hseg
  have hall2 := allM_step hlt hall (by rw [← hr]; exact hseg)
  (first | (refine H.wg ?_; clear H; intros; rename_i w H; constructor) | refine wk ?_)
  exact ⟨(by repeat (first | exact trivial | refine ⟨rfl, ?_⟩)), (kk + 1, S ++ [(a.num.toNat, d.bytes)]), (by repeat (first | exact trivial | refine ⟨rfl, ?_⟩)), ⟨by dsimp only; omega, hall2, V3, hV23, H.sx⟩, by dsimp only; omega⟩
/- what stands behind both loops -/
set_option maxRecDepth 100000 in
set_option maxHeartbeats 2000000 in
theorem hxrFile_g (hV : Sub V W) {h : VH} {v : Val} (hv : ValAt V h v) (hB : VB 1048576 v) (hvf : (vfault v).1 = 0) (hsh : (hexShape v).isSome = true) {s : Sl} {b : List UInt8} (hs : Byt V s b) (hl : b.length ≤ 1099511620000) : Ret Tryz.prog 9 [valV h, s.v].toArray W (FrG W V (hexMake v b)) := by
  have H := Rel.start hV
  have hlen := hs.len
  have hv0 := hv
  have hpl := hv.plen
  have hcnt := valid_count hvf
  obtain ⟨S, hS⟩ := Option.isSome_iff_exists.1 hsh
  obtain ⟨hok, hSl⟩ := hexShape_seg hS
  have hd : ∀ x ∈ S, x.2.length ≤ 65536 := fun x hx => by have := hok x hx; omega
  obtain ⟨k, n, bs, ss, pl⟩ := h
  dsimp only at hpl
  change Ret Tryz.prog 9 [.agg [iv k, iv n, bs.v, ss.v, pl.v].toArray, s.v].toArray W _
  refine cal_of_sem tabOk Tryz.func9 rfl (by kernel_rfl) 167 rfl (by simp) [0, 1, 2, 4, 5, 6, 7, 8, 9, 10, 11, 12, 13, 14, 15, 16, 17, 18, 21, 26, 53, 62, 68, 78, 95, 148] ?_
  refine SemC.seqGo tabOk ?_
  (first | (refine H.wh ?_; clear H; intros; rename_i w H; constructor) | refine wk ?_)
  ((first | refine Rel.nwD H ?_ | refine Rel.nw H ?_); clear H; intro w b2 H)
  (first | (refine H.wg ?_; clear H; intros; rename_i w H; constructor) | refine wk ?_)
  refine SemC.seqGo tabOk ?_
  (first | (refine H.wg ?_; clear H; intros; rename_i w H; constructor) | refine wk ?_)
  refine (hexGood_ref H.data hs hl).use ?_
  rintro q w ⟨rfl, K⟩
  (have hKb := K.base; replace H := Rel.call H K)
  simp only [List.nil_append] at H
  cases hrd : hexRd b with
  | none =>
    rw [hexMake_bad hS hrd]
    (first | (refine H.wg ?_; clear H; intros; rename_i w H; constructor) | refine wk ?_)
    exact ⟨V, ⟨none, 0, 0⟩, [], false, Sub.refl _, H.sx, rfl, SlF.nil _ _, rfl⟩
  | some x =>
  obtain ⟨fl, Z⟩ := x
  obtain ⟨hf, hZl, hZ, _⟩ := hexRd_some hrd
  rw [show (some (fl, Z)).isSome = true from rfl]
  (first | (refine H.wg ?_; clear H; intros; rename_i w H; constructor) | refine wk ?_)
  refine SemC.seqGo tabOk ?_
  (first | (refine H.wg ?_; clear H; intros; rename_i w H; constructor) | refine wk ?_)
  refine SemC.seqGo tabOk ?_
  (first | (refine H.wg ?_; clear H; intros; rename_i w H; constructor) | refine wk ?_)
  replace H := H.rowNil 47 2
  refine loop_inv (S := Nat × Sl × List (Nat × Sl)) tabOk [0, 1, 2, 4, 5, 8, 9, 10, 11, 12, 13, 14, 15, 16, 17, 18, 21, 53, 62, 68, 78, 95, 148] (fun q => [(6, q.2.1.v), (7, iv q.1)]) (fun q w' => q.1 ≤ v.parts.length ∧ Pw SegR V q.2.2 (S.take q.1) ∧ Rel W V [.row q.2.1 47 2 (q.2.2.flatMap sgC), .blk b2 [iv k, iv n, bs.v, ss.v, pl.v] 26] V w') (fun q _ => v.parts.length - q.1) (0, ⟨none, 0, 0⟩, []) ?_
  (conv => whnf)
  refine ⟨(by repeat (first | exact trivial | refine ⟨rfl, ?_⟩)), ⟨by omega, Pw.nil, H⟩, ?_⟩
  clear H
  rintro ⟨kk, r0, hh⟩ w ⟨hkk, hP, H⟩
  dsimp only at hkk hP H ⊢
  have hPl := hP.len
  rw [List.length_take] at hPl
  by_cases hlt : kk < v.parts.length
  · obtain ⟨hp0, x, hx, a0, a1, a2, a3, a4⟩ := hv0.part5 (i := kk) hlt
    have hsk := hexShape_at hS hlt (by omega)
    have hst := List.take_succ_eq_append_getElem (show kk < S.length by omega)
    obtain ⟨y, hy⟩ : ∃ y, y = S[kk]'(by omega) := ⟨_, rfl⟩
    obtain ⟨r, hr⟩ : ∃ r, r = v.parts[kk] := ⟨_, rfl⟩
    rw [← hr, ← hy] at hsk
    rw [← hy] at hst
    rw [← hr] at hx
    obtain ⟨a, d, hps, hna, hda⟩ := segOf_inv hsk
    have h2 : r.parts.length = 2 := by rw [hps]; rfl
    have hrl := hx.plen
    obtain ⟨_, xa, hxa, c0, c1, c2, c3, c4⟩ := hx.part5 (i := 0) (by omega)
    obtain ⟨_, xd, hxd, d0, d1, d2, d3, d4⟩ := hx.part5 (i := 1) (by omega)
    have g0 : r.parts[0] = a := by simp [hps]
    have g1 : r.parts[1] = d := by simp [hps]
    rw [g0] at hxa
    rw [g1] at hxd
    have na := hxa.num
    have hdb := hxd.bytes
    rw [hna] at na
    rw [hda] at hdb
    obtain ⟨xk, xn, xb, xs, xp⟩ := x
    obtain ⟨ak, an, ab, al, ap⟩ := xa
    obtain ⟨dk, dn, db, ds, dp⟩ := xd
    dsimp only at hrl na hdb a0 a1 a2 a3 a4 c0 c1 c2 c3 c4 d0 d1 d2 d3 d4
    subst na
    (first | (refine H.wg ?_; clear H; intros; rename_i w H; constructor) | refine wk ?_)
    ((first | refine draw_vc (id := 7) tabOk mixed [] [0, 1, 2, 3, 4, 5, 6, 7, 8, 9, 10, 11, 12, 13, 14, 15, 16, 17, 18, 19, 20, 21, 22] (by kernel_rfl) ?_ | refine draw_vc (id := 20) tabOk mixed [] [0, 1, 2, 3, 4, 5, 6, 7, 8, 9, 10, 11, 12, 13, 14, 15, 16] (by kernel_rfl) ?_); intro w hdw; replace H := Rel.ext H hdw.ext)
    (first | (refine H.wg ?_; clear H; intros; rename_i w H; constructor) | refine wk ?_)
    refine Rel.app1_0 (f := sgC) (s := r0) (l := hh) (x := (y.1, db)) tabOk rfl rfl rfl rfl rfl (by decide) (fun _ => rfl) (by simp [Value.oneCell']) H (by show (hh.length + 1) * 32 ≤ _; omega) (by omega) ?_
    clear H
    intro r1 w H
    (first | (refine H.wg ?_; clear H; intros; rename_i w H; constructor) | refine wk ?_)
    exact ⟨(by repeat (first | exact trivial | refine ⟨rfl, ?_⟩)), (kk + 1, r1, hh ++ [(y.1, db)]), (by repeat (first | exact trivial | refine ⟨rfl, ?_⟩)), ⟨by dsimp only; omega, by dsimp only; rw [hst]; exact hP.snoc ⟨rfl, hdb⟩, H.sx⟩, by dsimp only; omega⟩
  obtain rfl : kk = v.parts.length := by omega
  rw [List.take_of_length_le (by omega)] at hP
  obtain ⟨V3, hV3, H, hr0⟩ := Rel.freezeF H (fun _ => rfl) (by decide)
  have hseg : SegsAt V3 r0 S := ⟨hh, hr0, hP.up SegR.up hV3⟩
  (first | (refine H.wg ?_; clear H; intros; rename_i w H; constructor) | refine wk ?_)
  refine SemC.seqGo tabOk ?_
  (first | (refine H.wg ?_; clear H; intros; rename_i w H; constructor) | refine wk ?_)
  refine SemC.seqGo tabOk ?_
  (first | (refine H.wg ?_; clear H; intros; rename_i w H; constructor) | refine wk ?_)
  refine SemC.seqCut tabOk (fun q : Sl => [(1, s.v), (2, .pointer (some ⟨b2, 0, none⟩)), (4, .slice none 0 0), (5, .bool false), (6, r0.v), (8, iv (fl : Int)), (9, q.v)]) (fun q w' => ∃ V4, Sub V3 V4 ∧ SlF itC V4 q (ints Z) ∧ Rel W V [.blk b2 [iv k, iv n, bs.v, ss.v, pl.v] 26] V4 w') ?_ ?_
  · by_cases hb0 : b.length = 0
    · have hbn : b = [] := List.eq_nil_of_length_eq_zero hb0
      rw [hbn, hexRd_nil] at hrd
      cases hrd
      (first | (refine H.wg ?_; clear H; intros; rename_i w H; constructor) | refine wk ?_)
      exact ⟨⟨none, 0, 0⟩, (by repeat (first | exact trivial | refine ⟨rfl, ?_⟩)), V3, Sub.refl _, SlF.nil _ _, H.sx⟩
    · have hraw := hexRd_raw (fun h => hb0 (by rw [h]; rfl)) hrd
      (first | (refine H.wg ?_; clear H; intros; rename_i w H; constructor) | refine wk ?_)
      refine (numbersOf_ref H.data (hs.up hV3) (by omega)).use ?_
      rintro q w ⟨V4, rz, c, z, kf, hV4, K, rfl, hI, hrz, hz1, hres⟩
      (have hKb := K.base; replace H := Rel.call H K)
      simp only [List.nil_append] at H
      rw [hraw] at hres
      obtain ⟨rfl, hres⟩ := hres
      cases hres
      (first | (refine H.wg ?_; clear H; intros; rename_i w H; constructor) | refine wk ?_)
      exact ⟨rz, (by repeat (first | exact trivial | refine ⟨rfl, ?_⟩)), V4, hV4, hrz, H.sx⟩
  clear H
  rintro q0 w ⟨V4, hV4, hq0, H⟩
  have hq0l := hq0.len
  rw [List.length_map] at hq0l
  obtain ⟨Z2, hZ2⟩ : ∃ Z2, Z2 = if Z = [] then usual S else Z := ⟨_, rfl⟩
  have hb : Z2.length ≤ 40000000 ∧ ∀ n ∈ Z2, 1 ≤ n ∧ n ≤ 255 := by
    rw [hZ2]
    split
    · have := usual_le hd
      refine ⟨by omega, fun n hn => ?_⟩
      obtain ⟨x, _, hx⟩ := List.mem_flatMap.1 hn
      have := (usualN_sum _ x.2.length (Nat.le_refl _)).2 n hx
      omega
    · exact ⟨by omega, hZ⟩
  obtain ⟨hZ2l, hZ2b⟩ := hb
  refine SemC.seqCut tabOk (fun q : Sl => [(1, s.v), (2, .pointer (some ⟨b2, 0, none⟩)), (4, .slice none 0 0), (5, .bool false), (6, r0.v), (8, iv (fl : Int)), (9, q.v)]) (fun q w' => ∃ V5, Sub V4 V5 ∧ SlF itC V5 q (ints Z2) ∧ Rel W V [.blk b2 [iv k, iv n, bs.v, ss.v, pl.v] 26] V5 w') ?_ ?_
  · by_cases hz0 : Z.length = 0
    · rw [if_pos (List.eq_nil_of_length_eq_zero hz0)] at hZ2
      (first | (refine H.wg ?_; clear H; intros; rename_i w H; constructor) | refine wk ?_)
      refine (usualLengths_ref H.data (hseg.up hV4) (by omega) hok).use ?_
      rintro q w ⟨r1, rfl, K⟩
      (have hKb := K.base; replace H := Rel.call H K)
      simp only [List.cons_append, List.nil_append] at H
      rw [← hZ2] at H
      obtain ⟨V5, hV5, H, hr1⟩ := Rel.freezeF H (fun _ => rfl) (by decide)
      (first | (refine H.wg ?_; clear H; intros; rename_i w H; constructor) | refine wk ?_)
      exact ⟨r1, (by repeat (first | exact trivial | refine ⟨rfl, ?_⟩)), V5, hV5, hr1, H.sx⟩
    · rw [if_neg (fun h => hz0 (by rw [h]; rfl))] at hZ2
      (first | (refine H.wg ?_; clear H; intros; rename_i w H; constructor) | refine wk ?_)
      exact ⟨q0, (by repeat (first | exact trivial | refine ⟨rfl, ?_⟩)), V4, Sub.refl _, by rw [hZ2]; exact hq0, H.sx⟩
  clear H hq0 hq0l
  rintro q1 w ⟨V5, hV5, hq1, H⟩
  refine SemC.go tabOk ?_
  have hV05 : Sub V V5 := (hV3.trans hV4).trans hV5
  obtain ⟨gs, hgs, hpw⟩ := (hseg.up hV4).up hV5
  have hgl := hpw.len
  have hr0l := hgs.len
  (first | (refine H.wg ?_; clear H; intros; rename_i w H; constructor) | refine wk ?_)
  replace H := H.rowNil 5 1
  refine loop_inv (S := Nat × Sl × Sl × List (List UInt8) × List Nat) tabOk [0, 1, 2, 6, 7, 8, 16, 17, 18, 21, 26, 53, 62, 148] (fun q => [(9, q.2.1.v), (10, q.2.2.1.v), (11, iv q.1)]) (fun q w' => q.1 ≤ S.length ∧ wrAll S Z2 = preR q.2.2.2.1 (wrAll (S.drop q.1) q.2.2.2.2) ∧ q.2.2.2.1.length + q.2.2.2.2.length = Z2.length ∧ (∀ r ∈ q.2.2.2.1, r.length ≤ 260) ∧ (∀ n ∈ q.2.2.2.2, 1 ≤ n ∧ n ≤ 255) ∧ ∃ V6, Sub V5 V6 ∧ SlF itC V6 q.2.1 (ints q.2.2.2.2) ∧ Rel W V [.row q.2.2.1 5 1 ((q.2.2.2.1.flatMap (lineB fl)).flatMap byC), .blk b2 [iv k, iv n, bs.v, ss.v, pl.v] 26] V6 w') (fun q _ => S.length - q.1) (0, q1, ⟨none, 0, 0⟩, [], Z2) ?_
  (conv => whnf)
  refine ⟨(by repeat (first | exact trivial | refine ⟨rfl, ?_⟩)), ⟨by omega, by rw [preR_nil]; rfl, by simp, by simp, hZ2b, V5, Sub.refl _, hq1, H⟩, ?_⟩
  clear H hq1
  rintro ⟨kk, q, dr, rs, Zr⟩ w ⟨hkk, hwr, hln, hr2, hzb, V6, hV6, hq, H⟩
  dsimp only at hkk hwr hln hr2 hzb hq H ⊢
  have hql := hq.len
  rw [List.length_map] at hql
  have hll := lines_le fl hr2
  by_cases hlt : kk < S.length
  rotate_left
  · obtain rfl : kk = S.length := by omega
    rw [List.drop_length, wrAll_end] at hwr
    (first | (refine H.wh ?_; clear H; intros; rename_i w H; constructor) | refine wk ?_)
    ((first | refine Rel.nwD H ?_ | refine Rel.nw H ?_); clear H; intro w b4 H)
    replace H := H.blkEq (c' := (recHd 0 1 []).flatMap byC) rfl
    obtain ⟨V7, hV7, H, hb4⟩ := H.freezeBlk
    have hrw : Byt V7 ⟨some ⟨b4, 0, none⟩, 4, 4⟩ (recHd 0 1 []) := ⟨rfl, Nat.le_refl _, hb4.cells⟩
    (first | (refine H.wg ?_; clear H; intros; rename_i w H; constructor) | refine wk ?_)
    refine (hexLine_ref H.data hrw (by decide) hf).use ?_
    rintro q w ⟨V8, rl, hV8, K, rfl, hrl⟩
    (have hKb := K.base; replace H := Rel.call H K)
    simp only [List.nil_append] at H
    rw [show recHd 0 1 [] ++ [sumC (recHd 0 1 [])] = mkRec 0 1 [] from rfl] at hrl
    have hle := (lineB_len fl (mkRec 0 1 [])).2
    rw [mkRec_len, List.length_nil] at hle
    (first | (refine H.wg ?_; clear H; intros; rename_i w H; constructor) | refine wk ?_)
    refine Rel.appD H (i := 0) rfl hrl (by omega) ?_
    clear H
    intro dr w H
    simp only [List.set_cons_zero] at H
    have hVc := ((hV05.trans hV6).trans hV7).trans hV8
    have hqx := Zr.length
    (first | (refine H.wg ?_; clear H; intros; rename_i w H; constructor) | refine wk ?_)
    obtain ⟨O, hOd⟩ : ∃ O, O = rs.flatMap (lineB fl) ++ lineB fl (mkRec 0 1 []) := ⟨_, rfl⟩
    have hout : hexOut fl S Z = if Zr = [] then some O else none := by
      rw [hexOut_eq, ← hZ2, hwr]
      by_cases he : Zr = []
      · rw [if_pos he, if_pos he, hOd]
        exact congrArg (fun z => some (z.flatMap (lineB fl) ++ lineB fl (mkRec 0 1 []))) (List.append_nil rs)
      · rw [if_neg he, if_neg he]
        rfl
    rw [← hOd] at H
    obtain ⟨V20, hV20, H, hO⟩ := Rel.freezeF H (fun _ => rfl) (by decide)
    have hOl := hO.len
    have hV020 := hVc.trans hV20
    by_cases hbig : 1000 < O.length
    · have hmn : hexMake v b = none := by
        by_cases he : Zr = []
        · rw [if_pos he] at hout
          exact hexMake_no hS hrd hout fun h => by omega
        · rw [if_neg he] at hout
          exact hexMake_out hS hrd hout
      rw [hmn]
      (first | (refine H.wg ?_; clear H; intros; rename_i w H; constructor) | refine wk ?_)
      exact ⟨V20, ⟨none, 0, 0⟩, [], false, hV020, H.sx, rfl, SlF.nil _ _, rfl⟩
    by_cases hz0 : Zr.length = 0
    rotate_left
    · rw [if_neg (fun he => hz0 (by rw [he]; rfl))] at hout
      rw [hexMake_out hS hrd hout]
      (first | (refine H.wg ?_; clear H; intros; rename_i w H; constructor) | refine wk ?_)
      exact ⟨V20, ⟨none, 0, 0⟩, [], false, hV020, H.sx, rfl, SlF.nil _ _, rfl⟩
    rw [if_pos (List.eq_nil_of_length_eq_zero hz0)] at hout
    (first | (refine H.wg ?_; clear H; intros; rename_i w H; constructor) | refine wk ?_)
    refine (hxrTo_ref H.data hO (by omega)).use ?_
    rintro q w ⟨V9, h3, r3, v3, b3, hV209, K, hv3, hr3, hto⟩
    (have hKb := K.base; replace H := H.call0 K)
    have hV9 := hV020.trans hV209
    cases ht : hexTo O with
    | none =>
      rw [ht] at hto
      dsimp only at hto
      subst hto
      (first | (refine H.wh ?_; clear H; intros; rename_i w H; constructor) | refine wk ?_)
      ((first | refine Rel.nwD H ?_ | refine Rel.nw H ?_); clear H; intro w b16 H)
      rw [(hexMake_no hS hrd hout fun _ => by rw [ht]; simp)]
      (first | (refine H.wg ?_; clear H; intros; rename_i w H; constructor) | refine wk ?_)
      exact ⟨V9, dr, O, false, hV9, H.sx, rfl, hO.up hV209, rfl⟩
    | some y =>
      obtain ⟨vv, rr⟩ := y
      rw [ht] at hto
      obtain ⟨rfl, hto⟩ := hto
      have z1 : vv = v3 := congrArg Prod.fst hto
      have z2 : rr = b3 := congrArg Prod.snd hto
      subst z1 z2
      obtain ⟨hVB, _⟩ := hex_valid (by omega) ht
      (first | (refine H.wh ?_; clear H; intros; rename_i w H; constructor) | refine wk ?_)
      ((first | refine Rel.nwD H ?_ | refine Rel.nw H ?_); clear H; intro w b16 H)
      (first | (refine H.wg ?_; clear H; intros; rename_i w H; constructor) | refine wk ?_)
      refine (same_value (SizeOf.sizeOf (vv : Val) + 1) H.data (Nat.lt_succ_self _) hv3 (hv0.up hV9) (vb_big hVB)).use ?_
      rintro q w ⟨r0, rfl, hsame, K⟩
      (have hKb := K.base; replace H := Rel.call H K)
      simp only [List.cons_append, List.nil_append] at H
      by_cases hvv : vv = v
      rotate_left
      · obtain rfl : r0 = false := by
          cases r0 with
          | false => rfl
          | true => exact absurd (hsame.1 rfl) hvv
        rw [(hexMake_no hS hrd hout fun _ h => by rw [ht] at h; cases h; exact hvv rfl)]
        (first | (refine H.wg ?_; clear H; intros; rename_i w H; constructor) | refine wk ?_)
        exact ⟨V9, dr, O, false, hV9, H.sx, rfl, hO.up hV209, rfl⟩
      obtain rfl := hsame.2 hvv
      (first | (refine H.wg ?_; clear H; intros; rename_i w H; constructor) | refine wk ?_)
      refine (bytes_ref H.data hr3 (hs.up hV9)).use ?_
      rintro q w ⟨rfl, K⟩
      (have hKb := K.base; replace H := Rel.call H K)
      simp only [List.cons_append, List.nil_append] at H
      by_cases hbb : rr = b
      rotate_left
      · rw [decide_eq_false hbb]
        rw [(hexMake_no hS hrd hout fun _ h => by rw [ht] at h; cases h; exact hbb rfl)]
        (first | (refine H.wg ?_; clear H; intros; rename_i w H; constructor) | refine wk ?_)
        exact ⟨V9, dr, O, false, hV9, H.sx, rfl, hO.up hV209, rfl⟩
      rw [decide_eq_true hbb, hexMake_yes hS hrd hout (by omega) (by rw [ht, hvv, hbb])]
      (first | (refine H.wg ?_; clear H; intros; rename_i w H; constructor) | refine wk ?_)
      exact ⟨V9, dr, O, true, hV9, H.sx, rfl, hO.up hV209, rfl, rfl⟩
  obtain ⟨p0, c0, c1⟩ := (hgs.up hV6).at2 (g := fun h : Nat × Sl => iv (h.1 : Int)) (g' := fun h : Nat × Sl => h.2.v) (fun _ => rfl) (i := kk) (by omega)
  have hR := hpw.all kk _ _ (List.getElem?_eq_getElem (by omega)) (List.getElem?_eq_getElem hlt)
  obtain ⟨x, hx⟩ : ∃ x, x = gs[kk]'(by omega) := ⟨_, rfl⟩
  obtain ⟨y, hy⟩ : ∃ y, y = S[kk] := ⟨_, rfl⟩
  rw [← hx, ← hy] at hR
  rw [← hx] at c0 c1
  have hyk := hok y (by rw [hy]; exact List.getElem_mem hlt)
  rw [List.drop_eq_getElem_cons hlt, ← hy] at hwr
  obtain ⟨T, hT⟩ : ∃ T, T = S.drop (kk + 1) := ⟨_, rfl⟩
  rw [← hT] at hwr
  obtain ⟨xa, xs⟩ := x
  obtain ⟨ya, yd⟩ := y
  obtain ⟨hxy, hby⟩ := hR
  dsimp only at hby hxy c0 c1 hyk
  subst hxy
  replace hby := hby.up hV6
  have hbl := hby.len
  have hbc := hby.cap
  (first | (refine H.wg ?_; clear H; intros; rename_i w H; constructor) | refine wk ?_)
  refine loop_inv (S := Nat × Sl × Sl × List (List UInt8) × List Nat) tabOk [0, 1, 2, 6, 7, 8, 11, 16, 17, 18, 21, 26, 53, 62, 68, 148] (fun q => [(9, q.2.1.v), (10, q.2.2.1.v), (12, iv q.1)]) (fun q w' => q.1 ≤ yd.length ∧ wrAll S Z2 = preR q.2.2.2.1 (wrAll ((xa + q.1, yd.drop q.1) :: T) q.2.2.2.2) ∧ q.2.2.2.1.length + q.2.2.2.2.length = Z2.length ∧ (∀ r ∈ q.2.2.2.1, r.length ≤ 260) ∧ (∀ n ∈ q.2.2.2.2, 1 ≤ n ∧ n ≤ 255) ∧ ∃ V7, Sub V6 V7 ∧ SlF itC V7 q.2.1 (ints q.2.2.2.2) ∧ Rel W V [.row q.2.2.1 5 1 ((q.2.2.2.1.flatMap (lineB fl)).flatMap byC), .blk b2 [iv k, iv n, bs.v, ss.v, pl.v] 26] V7 w') (fun q _ => yd.length - q.1) (0, q, dr, rs, Zr) ?_
  (conv => whnf)
  refine ⟨(by repeat (first | exact trivial | refine ⟨rfl, ?_⟩)), ⟨by dsimp only; omega, by dsimp only; rw [List.drop_zero]; exact hwr, hln, hr2, hzb, V6, Sub.refl _, hq, H⟩, ?_⟩
  clear H hwr hq hln hr2 hzb hql hll hx hy
  clear q dr rs Zr
  rintro ⟨a, q, dr, rs, Zr⟩ w ⟨hal, hwr, hln, hr2, hzb, V7, hV7, hq, H⟩
  dsimp only at hal hwr hln hr2 hzb hq H ⊢
  have hql := hq.len
  rw [List.length_map] at hql
  have hqc := hq.cap
  have hll := lines_le fl hr2
  have c0 := hV7.cell c0
  have c1 := hV7.cell c1
  by_cases hD0 : a < yd.length
  rotate_left
  · obtain rfl : a = yd.length := by omega
    rw [List.drop_length, wrAll_done] at hwr
    (first | (refine H.wg ?_; clear H; intros; rename_i w H; constructor) | refine wk ?_)
    exact ⟨(by repeat (first | exact trivial | refine ⟨rfl, ?_⟩)), (kk + 1, q, dr, rs, Zr), (by repeat (first | exact trivial | refine ⟨rfl, ?_⟩)), ⟨by dsimp only; omega, by dsimp only; rw [← hT]; exact hwr, hln, hr2, hzb, V7, hV6.trans hV7, hq, H.sx⟩, by dsimp only; omega⟩
  have hDl : (yd.drop a).length = yd.length - a := List.length_drop
  have hD : yd.drop a ≠ [] := fun h => by rw [h] at hDl; simp at hDl; omega
  cases Zr with
  | nil =>
    rw [List.length_nil] at hql
    rw [wrAll_stop T hD] at hwr
    have e0 : hexOut fl S Z = none := by rw [hexOut_eq, ← hZ2, hwr]; rfl
    rw [hexMake_out hS hrd e0]
    (first | (refine H.wg ?_; clear H; intros; rename_i w H; constructor) | refine wk ?_)
    ((first | refine draw_vc (id := 7) tabOk mixed [] [0, 1, 2, 3, 4, 5, 6, 7, 8, 9, 10, 11, 12, 13, 14, 15, 16, 17, 18, 19, 20, 21, 22] (by kernel_rfl) ?_ | refine draw_vc (id := 20) tabOk mixed [] [0, 1, 2, 3, 4, 5, 6, 7, 8, 9, 10, 11, 12, 13, 14, 15, 16] (by kernel_rfl) ?_); intro w hdw; replace H := Rel.ext H hdw.ext)
    (first | (refine H.wg ?_; clear H; intros; rename_i w H; constructor) | refine wk ?_)
    exact ⟨V7, ⟨none, 0, 0⟩, [], false, (hV05.trans hV6).trans hV7, H.sx, rfl, SlF.nil _ _, rfl⟩
  | cons m Zt =>
    obtain ⟨p1, d0⟩ := hq.at1 (g := iv) (fun _ => rfl) (i := 0) (by simp)
    rw [show (ints (m :: Zt))[0]'(by simp) = (m : Int) from rfl] at d0
    have hzn := hzb m (by simp)
    rw [List.length_cons] at hql hln
    by_cases hnD : m ≤ (yd.drop a).length
    rotate_left
    · rw [wrAll_big T Zt hD (by omega)] at hwr
      rw [hDl] at hnD
      have e0 : hexOut fl S Z = none := by rw [hexOut_eq, ← hZ2, hwr]; rfl
      rw [hexMake_out hS hrd e0]
      (first | (refine H.wg ?_; clear H; intros; rename_i w H; constructor) | refine wk ?_)
      ((first | refine draw_vc (id := 7) tabOk mixed [] [0, 1, 2, 3, 4, 5, 6, 7, 8, 9, 10, 11, 12, 13, 14, 15, 16, 17, 18, 19, 20, 21, 22] (by kernel_rfl) ?_ | refine draw_vc (id := 20) tabOk mixed [] [0, 1, 2, 3, 4, 5, 6, 7, 8, 9, 10, 11, 12, 13, 14, 15, 16] (by kernel_rfl) ?_); intro w hdw; replace H := Rel.ext H hdw.ext)
      (first | (refine H.wg ?_; clear H; intros; rename_i w H; constructor) | refine wk ?_)
      exact ⟨V7, ⟨none, 0, 0⟩, [], false, (hV05.trans hV6).trans hV7, H.sx, rfl, SlF.nil _ _, rfl⟩
    rw [wrAll_step T Zt hD hnD, preR_app] at hwr
    rw [hDl] at hnD
    (first | (refine H.wg ?_; clear H; intros; rename_i w H; constructor) | refine wk ?_)
    ((first | refine draw_vc (id := 7) tabOk mixed [] [0, 1, 2, 3, 4, 5, 6, 7, 8, 9, 10, 11, 12, 13, 14, 15, 16, 17, 18, 19, 20, 21, 22] (by kernel_rfl) ?_ | refine draw_vc (id := 20) tabOk mixed [] [0, 1, 2, 3, 4, 5, 6, 7, 8, 9, 10, 11, 12, 13, 14, 15, 16] (by kernel_rfl) ?_); intro w hdw; replace H := Rel.ext H hdw.ext)
    (first | (refine H.wh ?_; clear H; intros; rename_i w H; constructor) | refine wk ?_)
    ((first | refine Rel.nwD H ?_ | refine Rel.nw H ?_); clear H; intro w b15 H)
    obtain ⟨L4, hL4⟩ : ∃ L4, L4 = [UInt8.ofNat m, UInt8.ofNat ((xa + a) / 256), UInt8.ofNat (xa + a), UInt8.ofNat 0] := ⟨_, rfl⟩
    replace H := H.blkEq (c' := L4.flatMap byC) (by rw [hL4]; exact hx4_cells (n := m) (p := xa + a) (by omega) (by omega) rfl rfl rfl)
    obtain ⟨V8, hV8, H, hb15⟩ := H.freezeBlk
    have c0 := hV8.cell c0
    have c1 := hV8.cell c1
    have hb4 : Byt V8 ⟨some ⟨b15, 0, none⟩, 4, 4⟩ L4 := ⟨by rw [hL4]; rfl, Nat.le_refl _, hb15.cells⟩
    have hL4l : L4.length = 4 := by rw [hL4]; rfl
    have hch := ((hby.up hV7).up hV8).sub (n := 1) (fun _ => rfl) (a := a) (b := a + m) (by omega) (by omega)
    obtain ⟨c, hc⟩ : ∃ c, c = (yd.drop a).take m := ⟨_, rfl⟩
    have hcl : c.length = m := by rw [hc, List.length_take]; omega
    have hce : (yd.take (a + m)).drop a = c := by rw [hc, List.drop_take, Nat.add_sub_cancel_left]
    rw [hce] at hch
    rw [← hc] at hwr
    rw [List.drop_drop, Nat.add_assoc] at hwr
    have hrh : L4 ++ c = recHd (xa + a) 0 c := by rw [hL4]; unfold recHd; rw [hcl]
    have hrhl : (recHd (xa + a) 0 c).length = m + 4 := by rw [← hrh, List.length_append, hL4l, hcl, Nat.add_comm]
    (first | (refine H.wg ?_; clear H; intros; rename_i w H; constructor) | refine wk ?_)
    refine (join_ref H.data hb4 hch (by omega)).use ?_
    rintro q2 w ⟨rj, rfl, K⟩
    (have hKb := K.base; replace H := Rel.call H K)
    simp only [List.cons_append, List.nil_append] at H
    rw [hrh] at H
    obtain ⟨V9, hV9, H, hrj⟩ := Rel.freezeF H (fun _ => rfl) (by decide)
    (first | (refine H.wg ?_; clear H; intros; rename_i w H; constructor) | refine wk ?_)
    refine (hexLine_ref H.data hrj (by omega) hf).use ?_
    rintro q2 w ⟨V10, rl, hV10, K, rfl, hrl⟩
    (have hKb := K.base; replace H := Rel.call H K)
    simp only [List.nil_append] at H
    rw [show recHd (xa + a) 0 c ++ [sumC (recHd (xa + a) 0 c)] = mkRec (xa + a) 0 c from rfl] at hrl
    have hle := (lineB_len fl (mkRec (xa + a) 0 c)).2
    rw [mkRec_len, hcl] at hle
    (first | (refine H.wg ?_; clear H; intros; rename_i w H; constructor) | refine wk ?_)
    refine Rel.appD H (i := 0) rfl hrl (by omega) ?_
    clear H
    intro dr2 w H
    simp only [List.set_cons_zero] at H
    rw [show rs.flatMap (lineB fl) ++ lineB fl (mkRec (xa + a) 0 c) = (rs ++ [mkRec (xa + a) 0 c]).flatMap (lineB fl) by simp] at H
    have hV710 := ((hV7.trans hV8).trans hV9).trans hV10
    have hqt : SlF itC V10 ⟨subA q.a 1 q.cap 1, q.len - 1, q.cap - 1⟩ (ints Zt) := by
      have z := (hq.up ((hV8.trans hV9).trans hV10)).sub (n := 1) (fun _ => rfl) (a := 1) (b := (ints (m :: Zt)).length) (by simp) (Nat.le_refl _)
      rw [List.take_length, List.length_map, List.length_cons, ← hql] at z
      exact z
    (first | (refine H.wg ?_; clear H; intros; rename_i w H; constructor) | refine wk ?_)
    exact ⟨(by repeat (first | exact trivial | refine ⟨rfl, ?_⟩)), (a + m, _, dr2, rs ++ [mkRec (xa + a) 0 c], Zt), (by repeat (first | exact trivial | refine ⟨rfl, ?_⟩)), ⟨by dsimp only; omega, hwr, by simp; omega, fun r hr => by
      rcases List.mem_append.1 hr with hr | hr
      · exact hr2 r hr
      · rw [List.mem_singleton.1 hr, mkRec_len, hcl]; omega, fun j hj => hzb j (by simp [hj]), V10, hV710, hqt, H.sx⟩, by dsimp only; omega⟩
end
end Go.Proofs.YtjfcpnlacodjjaaGreat
