/-
  bytes.IndexByte, Count, Index (of one byte), DecodeRune, makeASCIISet, IndexAny.
-/
import Derived.Test.YtkfcdjomkcmkeaaGreatDoorLibD
import Derived.Test.YtkfcdjomkcmkeaaGreatDoorValQ
import Derived.Test.YtkfcdjomkcmkeaaGreatDoorTblP
import Derived.Test.YtkfcdjomkcmkeaaGreatDoorGetA
import Derived.Lib.IndexEntry
import Derived.Shelf.Spec.DecodeRune
import Derived.Shelf.Bytes.SlTrimWalks
namespace Go.Proofs.YtkfcdjomkcmkeaaGreatDoor
open Go Go.RowKit Go.Shelf

/-! ### the model's own entries -/
theorem run_indexByteB {P : Program} {w : World} {s : Sl} {l : List UInt8} (h : Byt w s l) (c : Int) : (Extern.BytealgIndexByte.indexByte #[s.v, .int .u8 c]).run P w = .ok (iv (Lib.indexByte l c.toNat.toUInt8)) w := by
  have hs := Lib.run_indexByteString (P := P) ⟨l.toArray⟩ c w
  change Sem.run P (do
    let b ← Extern.Bytes.bytesOf s.v
    let c ← Extern.Bytes.asByte (.int .u8 c)
    match (List.range b.size).find? fun i => b[i]! == c with
    | some i => pure (goInt i)
    | none => pure (goInt (-1))) w = _
  change Sem.run P (do
    let b ← Extern.Bytes.bytesOf (.string ⟨l.toArray⟩)
    let c ← Extern.Bytes.asByte (.int .u8 c)
    match (List.range b.size).find? fun i => b[i]! == c with
    | some i => pure (goInt i)
    | none => pure (goInt (-1))) w = _ at hs
  simp only [Sem.run_bind, run_bytesOf h, Result.andThen] at hs ⊢
  simp only [Extern.Bytes.bytesOf, Sem.run_pure] at hs
  exact hs
theorem run_countB {P : Program} {w : World} {s : Sl} {l : List UInt8} (h : Byt w s l) (c : Int) : (Extern.BytealgCount.count #[s.v, .int .u8 c]).run P w = .ok (iv (l.count c.toNat.toUInt8 : Nat)) w := by
  have hs := Lib.run_countString (P := P) ⟨l.toArray⟩ c w
  change Sem.run P (do
    let b ← Extern.Bytes.bytesOf s.v
    let c' ← Extern.Bytes.asByte (.int .u8 c)
    pure (goInt (b.foldl (fun n x => if x == c' then n + 1 else n) (0 : Nat)))) w = _
  change Sem.run P (do
    let b ← Extern.Bytes.bytesOf (.string ⟨l.toArray⟩)
    let c' ← Extern.Bytes.asByte (.int .u8 c)
    pure (goInt (b.foldl (fun n x => if x == c' then n + 1 else n) (0 : Nat)))) w = _ at hs
  simp only [Sem.run_bind, run_bytesOf h, Result.andThen] at hs ⊢
  simp only [Extern.Bytes.bytesOf, Sem.run_pure] at hs
  exact hs
theorem u8_u8 (c : UInt8) : ((c.toNat : Nat) : Int).toNat.toUInt8 = c := by simp
section
variable {V W : World}
theorem indexByte_x (hV : Sub V W) {s : Sl} {l : List UInt8} (hs : Byt V s l) (c : UInt8) : Ret Tryz.prog 81 [s.v, bv c].toArray W fun v w' => v = iv (Lib.indexByte l c) ∧ Rel W V [] V w' :=
  Ret.ofExt Tryz.func81 (by kernel_rfl) (by kernel_rfl) (by kernel_rfl) (e := Extern.BytealgIndexByte.indexByte) (by kernel_rfl) (run_indexByteB (hs.up hV) c.toNat) ⟨by rw [u8_u8], Rel.start hV⟩
theorem indexByte_b (hV : Sub V W) {s : Sl} {l : List UInt8} (hs : Byt V s l) (c : UInt8) : Ret Tryz.prog 72 [s.v, bv c].toArray W fun v w' => v = iv (Lib.indexByte l c) ∧ Rel W V [] V w' := by
  have H := Rel.start hV
  refine cal_of_vc tabOk Tryz.func72 rfl (by kernel_rfl) 8 rfl (by simp) [0, 1, 4] ?_
  (first | (refine H.wg ?_; clear H; intros; rename_i w H; constructor) | refine wk ?_)
  refine (indexByte_x H.data hs c).use ?_
  rintro v w ⟨rfl, K⟩
  (have hKb := K.base; replace H := H.call0 K)
  (first | (refine H.wg ?_; clear H; intros; rename_i w H; constructor) | refine wk ?_)
  exact H
theorem index_one (hV : Sub V W) {s x : Sl} {l : List UInt8} (hs : Byt V s l) {c : UInt8} (hx : Byt V x [c]) : Ret Tryz.prog 79 [s.v, x.v].toArray W fun v w' => v = iv (Lib.indexByte l c) ∧ Rel W V [] V w' := by
  have H := Rel.start hV
  have hxl : x.len = 1 := hx.len
  obtain ⟨p0, c0⟩ := hx.at1 (g := bv) (i := 0) (fun _ => rfl) (by simp)
  change V.cell? _ = some (bv c) at c0
  refine cal_of_vc tabOk Tryz.func79 rfl (by kernel_rfl) 200 rfl (by simp) [0, 1, 4, 5, 6, 7, 8, 9, 10, 11, 12, 13, 14, 15, 16, 17, 18, 19, 22, 25, 33, 40, 41, 46, 52, 69, 75, 84, 105, 114, 121, 138, 144, 153, 174, 189, 196] ?_
  (first | (refine H.wg ?_; clear H; intros; rename_i w H; constructor) | refine wk ?_)
  refine (indexByte_b H.data hs c).use ?_
  rintro v w ⟨rfl, K⟩
  (have hKb := K.base; replace H := H.call0 K)
  (first | (refine H.wg ?_; clear H; intros; rename_i w H; constructor) | refine wk ?_)
  exact H
theorem count_x (hV : Sub V W) {s : Sl} {l : List UInt8} (hs : Byt V s l) (c : UInt8) : Ret Tryz.prog 94 [s.v, bv c].toArray W fun v w' => v = iv (l.count c : Nat) ∧ Rel W V [] V w' :=
  Ret.ofExt Tryz.func94 (by kernel_rfl) (by kernel_rfl) (by kernel_rfl) (e := Extern.BytealgCount.count) (by kernel_rfl) (run_countB (hs.up hV) c.toNat) ⟨by rw [u8_u8], Rel.start hV⟩
theorem count_one (hV : Sub V W) {s x : Sl} {l : List UInt8} (hs : Byt V s l) {c : UInt8} (hx : Byt V x [c]) : Ret Tryz.prog 78 [s.v, x.v].toArray W fun v w' => v = iv (l.count c : Nat) ∧ Rel W V [] V w' := by
  have H := Rel.start hV
  have hxl : x.len = 1 := hx.len
  obtain ⟨p0, c0⟩ := hx.at1 (g := bv) (i := 0) (fun _ => rfl) (by simp)
  change V.cell? _ = some (bv c) at c0
  refine cal_of_vc tabOk Tryz.func78 rfl (by kernel_rfl) 35 rfl (by simp) [0, 1, 4, 5, 6, 9, 15, 25] ?_
  (first | (refine H.wg ?_; clear H; intros; rename_i w H; constructor) | refine wk ?_)
  refine (count_x H.data hs c).use ?_
  rintro v w ⟨rfl, K⟩
  (have hKb := K.base; replace H := H.call0 K)
  (first | (refine H.wg ?_; clear H; intros; rename_i w H; constructor) | refine wk ?_)
  exact H
theorem indexByte_s (hV : Sub V W) (l : List UInt8) (c : UInt8) : Ret Tryz.prog 82 [str l, bv c].toArray W fun v w' => v = iv (Lib.indexByte l c) ∧ Rel W V [] V w' :=
  Ret.ofExt Tryz.func82 (by kernel_rfl) (by kernel_rfl) (by kernel_rfl) (e := Extern.BytealgIndexByte.indexByte) (by kernel_rfl) (Lib.run_indexByteString _ _ _) ⟨by rw [u8_u8], Rel.start hV⟩
end
def renD : Shelf.Ren := ⟨fun x => if x = 32 then 80 else if x = 49 then 98 else x,
  fun x => if x = 0 then 0 else if x = 3 then 3 else if x = 4 then 4 else if x = 5 then 5 else if x = 21 then 21 else if x = 25 then 108 else if x = 30 then 22 else if x = 33 then 115 else if x = 66 then 142 else if x = 68 then 144 else if x = 69 then 145 else x,
  fun x => if x = 2 then 1 else if x = 3 then 2 else x⟩
set_option maxRecDepth 100000 in
theorem laysDec : Lays7.n32 Tryz.prog renD where
  mixed := by kernel_rfl
  f32 := Tryz.func80.trans (congrArg some (by kernel_rfl))
  f49 := Tryz.func98.trans (congrArg some (by kernel_rfl))
  t0 := Tryz.underlying0
  a0 := Tryz.isAgg0
  z0 := Tryz.sizeOf0
  v0 := Tryz.zeroValue0
  i0 := by kernel_rfl
  t3 := Tryz.underlying3
  a3 := Tryz.isAgg3
  z3 := Tryz.sizeOf3
  v3 := Tryz.zeroValue3
  i3 := by kernel_rfl
  t4 := Tryz.underlying4
  a4 := Tryz.isAgg4
  z4 := Tryz.sizeOf4
  v4 := Tryz.zeroValue4
  i4 := by kernel_rfl
  t5 := Tryz.underlying5
  a5 := Tryz.isAgg5
  z5 := Tryz.sizeOf5
  v5 := Tryz.zeroValue5
  i5 := by kernel_rfl
  t21 := Tryz.underlying21
  a21 := Tryz.isAgg21
  z21 := Tryz.sizeOf21
  v21 := Tryz.zeroValue21
  i21 := by kernel_rfl
  t25 := Tryz.underlying108
  a25 := Tryz.isAgg108
  z25 := Tryz.sizeOf108
  v25 := Tryz.zeroValue108
  i25 := by kernel_rfl
  t30 := Tryz.underlying22
  a30 := Tryz.isAgg22
  z30 := Tryz.sizeOf22
  v30 := Tryz.zeroValue22
  i30 := by kernel_rfl
  t33 := Tryz.underlying115
  a33 := Tryz.isAgg115
  z33 := Tryz.sizeOf115
  v33 := Tryz.zeroValue115
  i33 := by kernel_rfl
  t66 := Tryz.underlying142
  a66 := Tryz.isAgg142
  z66 := Tryz.sizeOf142
  t68 := Tryz.underlying144
  a68 := Tryz.isAgg144
  z68 := Tryz.sizeOf144
  v68 := Tryz.zeroValue144
  i68 := by kernel_rfl
  t69 := Tryz.underlying145
  a69 := Tryz.isAgg145
  z69 := Tryz.sizeOf145
  v69 := Tryz.zeroValue145
  i69 := by kernel_rfl
  g2 := by kernel_rfl
  g3 := by kernel_rfl
abbrev Tabs (V : World) : Prop := Lib.Utf8Tabs 1 2 V
theorem tabs_up' {V V' : World} (h : Tabs V) (k : Sub V V') : Tabs V' :=
  ⟨fun c hc => k.cell (h.1 c hc), fun i hi => ⟨k.cell (h.2 i hi).1, k.cell (h.2 i hi).2⟩⟩
def decL (l : List UInt8) : Nat × Nat := Lib.decodeN l.length (at8 l 0) (at8 l 1) (at8 l 2) (at8 l 3)
theorem get_at8 (l : List UInt8) (i : Nat) : ((⟨l.toArray⟩ : ByteArray).get! i).toNat = at8 l i := by
  show ((l.toArray)[i]!).toNat = _
  unfold at8
  by_cases h : i < l.length
  · simp [h]
  · simp [h]
    rfl
theorem decL_go {l : List UInt8} (hne : l ≠ []) : Lib.decodeGo ⟨l.toArray⟩ = decL l := by
  have hs : (⟨l.toArray⟩ : ByteArray).size = l.length := by simp [ByteArray.size]
  have hl := List.length_pos_iff.2 hne
  unfold Lib.decodeGo decL
  rw [if_neg (by omega), Lib.decode_at, hs]
  simp only [get_at8, Nat.sub_zero, Nat.zero_add]
theorem decodeRune_spec {V W : World} (hV : Sub V W) (hT : Tabs V) {s : Sl} {l : List UInt8} (hs : Byt V s l) (hne : l ≠ []) : Ret Tryz.prog 80 [s.v].toArray W fun v w' => v = .tuple #[.int .i32 ((decL l).1 : Nat), iv ((decL l).2 : Nat)] ∧ Rel W V [] V w' := by
  have hlen := hs.len
  obtain ⟨hpl, _⟩ := hs.at1 (g := bv) (i := 0) (fun _ => rfl) (List.length_pos_iff.2 hne)
  obtain ⟨a, n, c⟩ := s
  cases a with
  | none => exact absurd hpl (by simp [Plain])
  | some p =>
    obtain ⟨b, o, z⟩ := p
    dsimp only at hlen hpl
    obtain rfl : z = none := by
      simp only [Plain, Option.some.injEq, Addr.mk.injEq] at hpl
      exact hpl.2.2
    subst hlen
    have hsz : (⟨l.toArray⟩ : ByteArray).size = l.length := by simp [ByteArray.size]
    have hc := Any7.utf8_DecodeRune laysDec ⟨l.toArray⟩ b o c W (tabs_up' hT hV) (fun j hj => by
      rw [hsz] at hj
      obtain ⟨_, h⟩ := hs.at1 (g := bv) (fun _ => rfl) hj
      rw [get_at8, at8_get hj]
      exact hV.cell h)
    rw [hsz, decL_go hne] at hc
    exact Ret.ofCalls Tryz.func80 (by kernel_rfl) (by kernel_rfl) (Calls.mono' hc fun e w' ⟨he, hb⟩ => ⟨_, he, rfl, Rel.ext (Rel.start hV) ⟨hb.os, hb.tape, hb.output, hb.size, hb.block⟩⟩)
/-! ### the first of four bytes -/
def ixA (s : UInt8) (l : List UInt8) : Int := if (tkU s l).2 = [] then -1 else ((tkU s l).1.length : Nat)
theorem ixA_hit {s : UInt8} {l : List UInt8} {i : Nat} (hi : i < l.length) (h : tNeeds s (l.take i) = false) (ht : tsp s l[i] = true) : ixA s l = (i : Nat) := by
  have e := tkU_out (s := s) (x := l.take i) (t := l[i] :: l.drop (i + 1)) h (.inr ⟨_, _, rfl, ht⟩)
  rw [← List.drop_eq_getElem_cons hi, List.take_append_drop] at e
  unfold ixA
  rw [e]
  simp only
  rw [if_neg (List.ne_nil_of_length_pos (by rw [List.length_drop]; omega)), List.length_take, Nat.min_eq_left (Nat.le_of_lt hi)]
theorem ixA_none {s : UInt8} {l : List UInt8} (h : tNeeds s l = false) : ixA s l = -1 := by
  have e := tkU_out (s := s) (x := l) (t := []) h (.inl rfl)
  rw [List.append_nil] at e
  unfold ixA
  rw [e]
  rfl
theorem tsp_hi {s c : UInt8} (hs : s.toNat < 128) (hc : 128 ≤ c.toNat) : tsp s c = false := by
  have h1 : c ≠ s := fun h => by subst h; omega
  have h2 : c ≠ 34 := fun h => by subst h; exact absurd hc (by decide)
  have h3 : c ≠ 13 := fun h => by subst h; exact absurd hc (by decide)
  have h4 : c ≠ 10 := fun h => by subst h; exact absurd hc (by decide)
  simp [tsp, h1, h2, h3, h4]
theorem tN_step {s : UInt8} {l : List UInt8} {i : Nat} (hi : i < l.length) (h : tNeeds s (l.take i) = false) (ht : tsp s l[i] = false) : tNeeds s (l.take (i + 1)) = false := by
  rw [List.take_succ_eq_append_getElem hi]
  unfold tNeeds at h ⊢
  rw [List.any_append, h]
  simpa using ht
theorem tN_more {s : UInt8} (hs : s.toNat < 128) {l : List UInt8} {i : Nat} : ∀ {k : Nat}, i + k ≤ l.length → tNeeds s (l.take i) = false → (∀ j, i ≤ j → j < i + k → 128 ≤ at8 l j) → tNeeds s (l.take (i + k)) = false
  | 0, _, h, _ => h
  | k + 1, hk, h, hj => by
    have ih := tN_more hs (k := k) (by omega) h fun j h1 h2 => hj j h1 (by omega)
    have h8 := hj (i + k) (by omega) (by omega)
    rw [at8_get (i := i + k) (by omega)] at h8
    exact tN_step (i := i + k) (by omega) ih (tsp_hi hs h8)
theorem idxB_in (x : UInt8) : ∀ l : List UInt8, 0 ≤ Lib.indexByte l x ↔ x ∈ l
  | [] => by simp [Lib.indexByte]
  | b :: l => by
    have ih := idxB_in x l
    have hge := Lib.indexByte_ge l x
    unfold Lib.indexByte
    by_cases h : b = x
    · subst h
      simp
    · have h2 : ¬ x = b := fun e => h e.symm
      rw [if_neg (by simpa using h)]
      by_cases h3 : Lib.indexByte l x = -1
      · rw [h3] at ih ⊢
        simp only [List.mem_cons, h2, false_or, ← ih]
        simp
      · rw [if_neg (by simpa using h3)]
        simp only [List.mem_cons, h2, false_or, ← ih]
        omega
theorem four_in {c x : UInt8} : (0 ≤ Lib.indexByte [34, 13, 10, c] x) ↔ tsp c x = true := by
  rw [idxB_in]
  simp only [tsp, List.mem_cons, List.not_mem_nil, or_false, Bool.or_eq_true, decide_eq_true_eq]
  constructor
  · rintro (h | h | h | h) <;> simp [h]
  · rintro (((h | h) | h) | h) <;> simp [h]
structure DecF (n b1 b2 b3 : Nat) (p : Nat × Nat) : Prop where
  hi : 128 ≤ p.1
  lt : p.1 < 1114112
  w1 : 1 ≤ p.2
  wn : p.2 ≤ n
  w4 : p.2 ≤ 4
  t1 : 1 < p.2 → 128 ≤ b1
  t2 : 2 < p.2 → 128 ≤ b2
  t3 : 3 < p.2 → 128 ≤ b3
  w2 : p.1 ≠ 65533 → 2 ≤ p.2
  enc : p.1 ≠ 65533 → (Utf8.encode (p.1 : Nat)).size = p.2
theorem enc_size {c : Nat} (hv : c < 55296 ∨ (57344 ≤ c ∧ c ≤ 1114111)) : (Utf8.encode (c : Nat)).size = if c < 128 then 1 else if c < 2048 then 2 else if c < 65536 then 3 else 4 := by
  have h1 : Utf8.valid (c : Int) = true := by
    simp only [Utf8.valid, Bool.or_eq_true, Bool.and_eq_true, decide_eq_true_eq]
    omega
  simp only [Utf8.encode, h1, if_true, Int.toNat_natCast]
  repeat' split
  all_goals rfl
theorem enc_head {c : Nat} (h : 128 ≤ c) : ∃ e t, Utf8.encode (c : Nat) = ⟨(e :: t).toArray⟩ ∧ 128 ≤ e.toNat := by
  obtain ⟨d, hd, hd2⟩ : ∃ d, d = (if Utf8.valid (c : Int) then (c : Int).toNat else Utf8.runeError) ∧ (128 ≤ d ∧ d < 1114112) := by
    refine ⟨_, rfl, ?_⟩
    split
    · rename_i hv
      simp only [Utf8.valid, Bool.or_eq_true, Bool.and_eq_true, decide_eq_true_eq] at hv
      omega
    · decide
  have hne : ¬ d < 128 := by omega
  simp only [Utf8.encode, ← hd, hne, if_false]
  have u8 : ∀ n, 128 ≤ n → n < 256 → 128 ≤ (UInt8.ofNat n).toNat := fun n h1 h2 => by rw [UInt8.toNat_ofNat']; omega
  split
  · exact ⟨_, _, rfl, u8 _ (by omega) (by omega)⟩
  · split
    · exact ⟨_, _, rfl, u8 _ (by omega) (by omega)⟩
    · exact ⟨_, _, rfl, u8 _ (by omega) (by omega)⟩
theorem decN_hi {n b0 b1 b2 b3 : Nat} (hn : 1 ≤ n) (h0 : 128 ≤ b0) (k0 : b0 < 256) (k1 : b1 < 256) (k2 : b2 < 256) (k3 : b3 < 256) : DecF n b1 b2 b3 (Lib.decodeN n b0 b1 b2 b3) := by
  have err : DecF n b1 b2 b3 (65533, 1) := ⟨by decide, by decide, by decide, hn, by decide, by simp, by simp, by simp, by simp, by simp⟩
  unfold Lib.decodeN
  rw [if_neg (by omega)]
  split
  · rename_i g1
    split
    · refine ⟨by dsimp only; omega, by dsimp only; omega, by dsimp only; omega, by dsimp only; omega, by dsimp only; omega, fun _ => by omega, fun h => by simp at h, fun h => by simp at h, fun _ => by dsimp only; omega, fun _ => ?_⟩
      rw [enc_size (by dsimp only; omega)]
      dsimp only
      rw [if_neg (by omega), if_pos (by omega)]
    · exact err
  · split
    · rename_i g1
      split
      · rename_i g2
        refine ⟨by dsimp only; omega, by dsimp only; omega, by dsimp only; omega, by dsimp only; omega, by dsimp only; omega, fun _ => by omega, fun _ => by omega, fun h => by simp at h, fun _ => by dsimp only; omega, fun _ => ?_⟩
        rw [enc_size (by dsimp only; omega)]
        dsimp only
        rw [if_neg (by omega), if_neg (by omega), if_pos (by omega)]
      · exact err
    · split
      · rename_i g1
        split
        · rename_i g2
          refine ⟨by dsimp only; omega, by dsimp only; omega, by dsimp only; omega, by dsimp only; omega, by dsimp only; omega, fun _ => by omega, fun _ => by omega, fun _ => by omega, fun _ => by dsimp only; omega, fun _ => ?_⟩
          rw [enc_size (by dsimp only; omega)]
          dsimp only
          rw [if_neg (by omega), if_neg (by omega), if_neg (by omega)]
        · exact err
      · exact err
theorem at8_drop (l : List UInt8) (i j : Nat) : at8 (l.drop i) j = at8 l (i + j) := by unfold at8; rw [List.getElem?_drop]
theorem at8_lt (l : List UInt8) (i : Nat) : at8 l i < 256 := UInt8.toNat_lt _
theorem idx_hi {e : UInt8} {t : List UInt8} (he : 128 ≤ e.toNat) : ∀ {cs : List UInt8}, (∀ b ∈ cs, b.toNat < 128) → Lib.index cs (e :: t) = -1
  | [], _ => rfl
  | b :: cs, h => by
    have hb := h b (by simp)
    have hne : (e == b) = false := by
      rw [beq_eq_false_iff_ne]
      intro h
      subst h
      omega
    unfold Lib.index
    rw [idx_hi he fun x hx => h x (by simp [hx])]
    simp [List.isPrefixOf, hne]
theorem dec_four {c : UInt8} (hc : c.toNat < 128) {k : Nat} (hk : k < 4) : ∃ d, d < 128 ∧ Utf8.decode ⟨([34, 13, 10, c] : List UInt8).toArray⟩ k = (d, 1) := by
  refine ⟨at8 [34, 13, 10, c] k, ?_, ?_⟩
  · match k, hk with
    | 0, _ => exact (by decide : (34 : UInt8).toNat < 128)
    | 1, _ => exact (by decide : (13 : UInt8).toNat < 128)
    | 2, _ => exact (by decide : (10 : UInt8).toNat < 128)
    | 3, _ => exact hc
  · rw [Lib.decode_at, get_at8]
    unfold Lib.decodeN
    rw [if_pos]
    match k, hk with
    | 0, _ => exact (by decide : (34 : UInt8).toNat < 128)
    | 1, _ => exact (by decide : (13 : UInt8).toNat < 128)
    | 2, _ => exact (by decide : (10 : UInt8).toNat < 128)
    | 3, _ => exact hc
theorem convIT {P : Program} {w : World} {s d : TypeId} (hs : (P.underlying s).isSome = true) (hd : P.underlying d = some .string) {k : IntKind} {n : Int} {l : List UInt8} (hn : Utf8.encode n = ⟨l.toArray⟩) {G : Value → World → Prop} (hk : G (str l) w) : SemOk P (convert s d (.int k n)) w G :=
  Rel.convIS hs hd (by rw [hn]; exact hk)
/-- what internal/bytealg.MaxLen holds -/
def MaxB (V : World) : Prop := ∃ m : Int, V.cell? ⟨0, 0, none⟩ = some (.int .i64 m)
theorem MaxB.up {V V' : World} (h : MaxB V) (k : Sub V V') : MaxB V' := by
  obtain ⟨m, hm⟩ := h
  exact ⟨m, k.cell hm⟩
theorem wr32n {n : Nat} (h : n < 2147483648) : wr .i32 (n : Int) = (n : Int) := by
  unfold wr
  simp only [IntKind.wrap, IntKind.bits, IntKind.signed]
  simp
  omega
/-- kept away from the walks -/
structure EncH (r : Nat) (e : UInt8) (t : List UInt8) : Prop where
  out : Utf8.encode (r : Nat) = ⟨(e :: t).toArray⟩
section
variable {V W : World}
theorem indexStr_x (hV : Sub V W) {m : Int} (hm : V.cell? ⟨0, 0, none⟩ = some (.int .i64 m)) {cs : List UInt8} (hcs : ∀ b ∈ cs, b.toNat < 128) (hl : cs.length < 1000) {e : UInt8} {t : List UInt8} (he : 128 ≤ e.toNat) (h2 : 1 ≤ t.length) (hb : (t.length : Int) + 1 ≤ m) :
    Ret Tryz.prog 87 [str cs, str (e :: t)].toArray W fun v w' => v = iv (-1) ∧ Rel W V [] V w' := by
  have hz : ∀ l : List UInt8, (⟨l.toArray⟩ : ByteArray).size = l.length := fun l => by simp [ByteArray.size]
  refine Ret.ofExt Tryz.func87 (by kernel_rfl) (by kernel_rfl) (by kernel_rfl) (e := Extern.BytealgIndex.index) (by kernel_rfl) (Lib.run_indexString ⟨cs.toArray⟩ ⟨(e :: t).toArray⟩ W 0 m (by kernel_rfl) (hV.cell hm) (by rw [hz, List.length_cons]; omega) (by rw [hz, List.length_cons]; omega) (by rw [hz]; omega)) ⟨?_, Rel.start hV⟩
  simp only [idx_hi he hcs]
theorem asciiUse_spec (hV : Sub V W) (n : Int) : Ret Tryz.prog 84 [iv n].toArray W fun v w' => v = .bool (decide (8 < n)) ∧ Rel W V [] V w' := by
  have H := Rel.start hV
  refine cal_of_vc tabOk Tryz.func84 rfl (by kernel_rfl) 5 rfl (by simp) [0, 2] ?_
  (first | (refine H.wg ?_; clear H; intros; rename_i w H; constructor) | refine wk ?_)
  exact H
def setL (cs : List UInt8) : List Value := (List.range 256).map fun j => Value.bool (cs.contains (UInt8.ofNat j))
theorem setL_at (cs : List UInt8) (x : UInt8) : (setL cs)[x.toNat]? = some (.bool (cs.contains x)) := by
  unfold setL
  rw [List.getElem?_map, List.getElem?_range x.toNat_lt]
  simp
def renS : Shelf.Ren := ⟨fun _ => 85, fun x => if x = 0 then 0 else if x = 3 then 3 else if x = 4 then 4 else if x = 5 then 5 else if x = 9 then 9 else if x = 27 then 121 else x, fun x => x⟩
set_option maxRecDepth 100000 in
theorem laysSet : SlLaysV.n11 Tryz.prog renS where
  mixed := by kernel_rfl
  f11 := Tryz.func85.trans (congrArg some (by kernel_rfl))
  t0 := Tryz.underlying0
  a0 := Tryz.isAgg0
  z0 := Tryz.sizeOf0
  v0 := Tryz.zeroValue0
  t3 := Tryz.underlying3
  a3 := Tryz.isAgg3
  z3 := Tryz.sizeOf3
  v3 := Tryz.zeroValue3
  t4 := Tryz.underlying4
  a4 := Tryz.isAgg4
  z4 := Tryz.sizeOf4
  v4 := Tryz.zeroValue4
  t5 := Tryz.underlying5
  a5 := Tryz.isAgg5
  z5 := Tryz.sizeOf5
  v5 := Tryz.zeroValue5
  t9 := Tryz.underlying9
  a9 := Tryz.isAgg9
  z9 := Tryz.sizeOf9
  v9 := Tryz.zeroValue9
  t27 := Tryz.underlying121
  a27 := Tryz.isAgg121
  z27 := Tryz.sizeOf121
set_option maxRecDepth 100000 in
theorem asciiSet_spec (hV : Sub V W) {cs : List UInt8} (hcs : ∀ b ∈ cs, b.toNat < 128) (hl : cs.length < 1000) : Ret Tryz.prog 85 [str cs].toArray W fun v w' => v = .tuple #[.agg (setL cs).toArray, .bool true] ∧ Rel W V [] V w' := by
  have h := Any.bytes_makeASCIISet laysSet (fun w => by kernel_rfl) (by kernel_rfl) ⟨cs.toArray⟩ W (by show cs.toArray.size < _; simp; omega) (fun j b hb => hcs b (List.mem_of_getElem? (by simpa using hb)))
  have e : Lib.setCells (⟨cs.toArray⟩ : ByteArray).data.toList = (setL cs).toArray := by
    rw [Lib.setCells_eq]
    unfold setL
    apply Array.ext'
    simp
  rw [e] at h
  exact Ret.ofCalls Tryz.func85 (by kernel_rfl) (by kernel_rfl) (Calls.mono' h fun e w' ⟨he, hw⟩ => ⟨_, he, rfl, by rw [hw]; exact ((Rel.start hV).newObj _).drop1⟩)
theorem four_con {c x : UInt8} : ([34, 13, 10, c] : List UInt8).contains x = tsp c x := by
  rw [Bool.eq_iff_iff, List.contains_iff_mem, ← four_in, idxB_in]
theorem asciiIn_spec (hV : Sub V W) {b : Nat} {cs : List UInt8} (hb : Blk V b (setL cs) 121) (x : UInt8) : Ret Tryz.prog 86 [.pointer (some ⟨b, 0, none⟩), bv x].toArray W fun v w' => v = .bool (cs.contains x) ∧ Rel W V [] V w' := by
  have H := Rel.start hV
  have h1 := hb.cel (setL_at cs x)
  have hx8 := x.toNat_lt
  refine cal_of_vc tabOk Tryz.func86 rfl (by kernel_rfl) 10 rfl (by simp) [0, 1, 4] ?_
  (first | (refine H.wg ?_; clear H; intros; rename_i w H; constructor) | refine wk ?_)
  rw [show x.toNat = placeOf 0 ((x.toNat : Nat) : Int).toNat 1 by simp [placeOf]] at h1
  refine ⟨_, H.dat h1, ?_⟩
  (first | (refine H.wg ?_; clear H; intros; rename_i w H; constructor) | refine wk ?_)
  exact H
set_option maxRecDepth 100000 in
set_option maxHeartbeats 2000000 in
theorem indexAny_spec (hV : Sub V W) (hT : Tabs V) (hM : MaxB V) {s : Sl} {l : List UInt8} (hs : Byt V s l) (hl : l.length ≤ 100000000) {c : UInt8} (hc : c.toNat < 128) : Ret Tryz.prog 73 [s.v, str [34, 13, 10, c]].toArray W fun v w' => v = iv (ixA c l) ∧ Rel W V [] V w' := by
  have H := Rel.start hV
  have hlen := hs.len
  have hz4 : (ByteArray.mk ([34, 13, 10, c] : List UInt8).toArray).size = 4 := rfl
  have hc4 : ∀ b ∈ [34, 13, 10, c], b.toNat < 128 := by simp [hc]
  obtain ⟨m, hm⟩ := hM
  refine cal_of_vc tabOk Tryz.func73 rfl (by kernel_rfl) 129 rfl (by simp) [0, 1, 4, 5, 6, 7, 8, 9, 10, 11, 12, 13, 15, 17, 20, 26, 28, 29, 30, 33, 39, 42, 47, 53, 59, 60, 61, 62, 63, 68, 74, 84, 91, 101, 105, 109, 113, 118, 121, 122, 123, 127] ?_
  by_cases h1 : l.length = 1
  · obtain ⟨x, rfl⟩ : ∃ x, l = [x] := by
      match l, h1 with
      | [x], _ => exact ⟨x, rfl⟩
    obtain ⟨p0, c0⟩ := hs.at1 (g := bv) (i := 0) (fun _ => rfl) (by simp)
    change V.cell? _ = some (bv x) at c0
    have hx8 := x.toNat_lt
    have hw32 : wr .i32 (x.toNat : Int) = (x.toNat : Int) := wr32n (by omega)
    by_cases hx : 128 ≤ x.toNat
    · have e : ixA c [x] = -1 := ixA_none (by simp [tNeeds, tsp_hi hc hx])
      rw [e]
      (first | (refine H.wg ?_; clear H; intros; rename_i w H; constructor) | refine wk ?_)
      rw [hw32]
      (first | (refine H.wg ?_; clear H; intros; rename_i w H; constructor) | refine wk ?_)
      refine Rel.range tabOk rfl rfl H ?_
      clear H
      intro w b H
      (first | (refine H.wg ?_; clear H; intros; rename_i w H; constructor) | refine wk ?_)
      refine loop_inv tabOk [0, 1, 6, 7, 8, 9, 10, 11, 12, 13, 15, 17, 20, 26, 28, 39, 42, 47, 53, 59, 60, 61, 62, 63, 68, 74, 84, 91, 101, 105, 109, 113, 118, 121, 122, 123, 127] (fun _ : Nat => []) (fun k w' => k ≤ 4 ∧ Rel W V [.obj b (.stringIter ⟨([34, 13, 10, c] : List UInt8).toArray⟩ k)] V w') (fun k _ => 4 - k) 0 ?_
      (conv => whnf)
      refine ⟨trivial, ⟨by omega, H⟩, ?_⟩
      clear H
      rintro kk w ⟨hkk, H⟩
      (conv => whnf)
      refine Rel.next H (fun hlt w H => ?_) (fun hlt => ?_)
      · have hk4 : kk < 4 := hlt
        obtain ⟨d, hd, hdec⟩ := dec_four hc hk4
        rw [hdec] at H ⊢
        (first | (refine H.wg ?_; clear H; intros; rename_i w H; constructor) | refine wk ?_)
        exact ⟨(by repeat (first | exact trivial | refine ⟨rfl, ?_⟩)), kk + 1, trivial, ⟨by omega, H⟩, by omega⟩
      · (first | (refine H.wg ?_; clear H; intros; rename_i w H; constructor) | refine wk ?_)
        exact H.sx
    · (first | (refine H.wg ?_; clear H; intros; rename_i w H; constructor) | refine wk ?_)
      rw [hw32]
      (first | (refine H.wg ?_; clear H; intros; rename_i w H; constructor) | refine wk ?_)
      refine (indexByte_s H.data _ x).use ?_
      rintro v w ⟨rfl, K⟩
      (have hKb := K.base; replace H := H.call0 K)
      have hin := @four_in c x
      have hge := Lib.indexByte_ge [34, 13, 10, c] x
      generalize Lib.indexByte [34, 13, 10, c] x = z at hin hge
      cases ht : tsp c x with
      | true =>
        have e : ixA c [x] = 0 := ixA_hit (i := 0) (by simp) rfl ht
        rw [e]
        have hz0 := hin.2 ht
        (first | (refine H.wg ?_; clear H; intros; rename_i w H; constructor) | refine wk ?_)
        exact H.sx
      | false =>
        have e : ixA c [x] = -1 := ixA_none (by simp [tNeeds, ht])
        rw [e]
        have hz0 : z < 0 := by
          rcases Int.lt_or_le z 0 with h | h
          · exact h
          · rw [hin.1 h] at ht
            cases ht
        (first | (refine H.wg ?_; clear H; intros; rename_i w H; constructor) | refine wk ?_)
        exact H.sx
  (first | (refine H.wg ?_; clear H; intros; rename_i w H; constructor) | refine wk ?_)
  refine (asciiUse_spec H.data s.len).use ?_
  rintro v w ⟨rfl, K⟩
  (have hKb := K.base; replace H := H.call0 K)
  by_cases h8 : 8 < l.length
  · rw [decide_eq_true (show (8 : Int) < s.len by omega)]
    (first | (refine H.wg ?_; clear H; intros; rename_i w H; constructor) | refine wk ?_)
    refine (asciiSet_spec H.data hc4 (by simp)).use ?_
    rintro v w ⟨rfl, K⟩
    (have hKb := K.base; replace H := H.call0 K)
    (first | (refine H.wh ?_; clear H; intros; rename_i w H; constructor) | refine wk ?_)
    ((first | refine Rel.nwD H ?_ | refine Rel.nw H ?_); clear H; intro w b7 H)
    (first | (refine H.wh ?_; clear H; intros; rename_i w H; constructor) | refine wk ?_)
    replace H := H.blkEq (c' := setL [34, 13, 10, c]) (by rfl)
    obtain ⟨V2, hV2, H, hb7⟩ := H.freezeBlk
    (first | (refine H.wg ?_; clear H; intros; rename_i w H; constructor) | refine wk ?_)
    have hss := hs.up hV2
    refine loop_inv (S := Nat) tabOk [0, 1, 5, 6, 7, 8, 11, 12, 13, 15, 17, 20, 26, 28, 29, 30, 33, 39, 42, 47, 53, 59, 60, 61, 74, 84, 91, 101, 105, 109, 113, 118, 121, 122, 123, 127] (fun i => [(62, iv i)]) (fun i w' => i ≤ l.length ∧ tNeeds c (l.take i) = false ∧ Rel W V [] V2 w') (fun i _ => l.length - i) 0 ?_
    (conv => whnf)
    refine ⟨(by repeat (first | exact trivial | refine ⟨rfl, ?_⟩)), ⟨by omega, rfl, H⟩, ?_⟩
    clear H
    rintro i w ⟨hi, hno, H⟩
    by_cases hlt : i < l.length
    rotate_left
    · rw [List.take_of_length_le (by omega)] at hno
      rw [ixA_none hno]
      (first | (refine H.wg ?_; clear H; intros; rename_i w H; constructor) | refine wk ?_)
      exact H.less (Sub.refl _) hV2
    obtain ⟨p0, c0⟩ := hss.at1 (g := bv) (fun _ => rfl) hlt
    obtain ⟨x, hx⟩ : ∃ x, x = l[i] := ⟨_, rfl⟩
    rw [← hx] at c0
    have hx8 := x.toNat_lt
    (first | (refine H.wg ?_; clear H; intros; rename_i w H; constructor) | refine wk ?_)
    refine (asciiIn_spec H.data hb7 x).use ?_
    rintro v w ⟨rfl, K⟩
    (have hKb := K.base; replace H := H.call0 K)
    rw [four_con]
    cases ht : tsp c x with
    | true =>
      have e : ixA c l = (i : Nat) := ixA_hit hlt hno (by rw [← hx]; exact ht)
      rw [e]
      (first | (refine H.wg ?_; clear H; intros; rename_i w H; constructor) | refine wk ?_)
      exact H.sx.less (Sub.refl _) hV2
    | false =>
      (first | (refine H.wg ?_; clear H; intros; rename_i w H; constructor) | refine wk ?_)
      exact ⟨(by repeat (first | exact trivial | refine ⟨rfl, ?_⟩)), i + 1, (by repeat (first | exact trivial | refine ⟨rfl, ?_⟩)), ⟨by omega, tN_step hlt hno (by rw [← hx]; exact ht), H.sx⟩, by omega⟩
  · rw [decide_eq_false (by omega)]
    (first | (refine H.wg ?_; clear H; intros; rename_i w H; constructor) | refine wk ?_)
    refine loop_inv (S := Nat) tabOk [0, 1, 5, 6, 7, 8, 9, 10, 17, 20, 26, 28, 29, 30, 33, 39, 42, 47, 53, 59, 60, 61, 62, 63, 68] (fun i => [(12, iv i)]) (fun i w' => i ≤ l.length ∧ tNeeds c (l.take i) = false ∧ Rel W V [] V w') (fun i _ => l.length - i) 0 ?_
    (conv => whnf)
    refine ⟨(by repeat (first | exact trivial | refine ⟨rfl, ?_⟩)), ⟨by omega, rfl, H⟩, ?_⟩
    clear H
    rintro i w ⟨hi, hno, H⟩
    by_cases hlt : i < l.length
    rotate_left
    · rw [List.take_of_length_le (by omega)] at hno
      rw [ixA_none hno]
      (first | (refine H.wg ?_; clear H; intros; rename_i w H; constructor) | refine wk ?_)
      exact H.sx
    obtain ⟨p0, c0⟩ := hs.at1 (g := bv) (fun _ => rfl) hlt
    obtain ⟨x, hx⟩ : ∃ x, x = l[i] := ⟨_, rfl⟩
    rw [← hx] at c0
    have hx8 := x.toNat_lt
    have hw32 : wr .i32 (x.toNat : Int) = (x.toNat : Int) := wr32n (by omega)
    by_cases hxa : x.toNat < 128
    · (first | (refine H.wg ?_; clear H; intros; rename_i w H; constructor) | refine wk ?_)
      rw [hw32]
      (first | (refine H.wg ?_; clear H; intros; rename_i w H; constructor) | refine wk ?_)
      refine (indexByte_s H.data _ x).use ?_
      rintro v w ⟨rfl, K⟩
      (have hKb := K.base; replace H := H.call0 K)
      have hin := @four_in c x
      have hge := Lib.indexByte_ge [34, 13, 10, c] x
      generalize Lib.indexByte [34, 13, 10, c] x = z at hin hge
      cases ht : tsp c x with
      | true =>
        have e : ixA c l = (i : Nat) := ixA_hit hlt hno (by rw [← hx]; exact ht)
        rw [e]
        have hz0 := hin.2 ht
        (first | (refine H.wg ?_; clear H; intros; rename_i w H; constructor) | refine wk ?_)
        exact H.sx
      | false =>
        have hz0 : z < 0 := by
          rcases Int.lt_or_le z 0 with h | h
          · exact h
          · rw [hin.1 h] at ht
            cases ht
        (first | (refine H.wg ?_; clear H; intros; rename_i w H; constructor) | refine wk ?_)
        exact ⟨(by repeat (first | exact trivial | refine ⟨rfl, ?_⟩)), i + 1, (by repeat (first | exact trivial | refine ⟨rfl, ?_⟩)), ⟨by omega, tN_step hlt hno (by rw [← hx]; exact ht), H.sx⟩, by omega⟩
    · have hsub := hs.sub (n := 1) (fun _ => rfl) (a := i) (b := l.length) hi (Nat.le_refl _)
      rw [List.take_length] at hsub
      have hcap := hs.cap
      have hF := decN_hi (n := (l.drop i).length) (b0 := at8 (l.drop i) 0) (b1 := at8 (l.drop i) 1) (b2 := at8 (l.drop i) 2) (b3 := at8 (l.drop i) 3) (by rw [List.length_drop]; omega) (by rw [at8_drop, Nat.add_zero, at8_get hlt, ← hx]; omega) (at8_lt _ _) (at8_lt _ _) (at8_lt _ _) (at8_lt _ _)
      change DecF _ _ _ _ (decL (l.drop i)) at hF
      (first | (refine H.wg ?_; clear H; intros; rename_i w H; constructor) | refine wk ?_)
      rw [hw32]
      (first | (refine H.wg ?_; clear H; intros; rename_i w H; constructor) | refine wk ?_)
      refine (decodeRune_spec H.data hT (hlen ▸ hsub) (List.ne_nil_of_length_pos (by rw [List.length_drop]; omega))).use ?_
      rintro v w ⟨rfl, K⟩
      (have hKb := K.base; replace H := H.call0 K)
      obtain ⟨r, k, hrk⟩ : ∃ r k, decL (l.drop i) = (r, k) := ⟨_, _, rfl⟩
      rw [hrk] at hF ⊢
      obtain ⟨f1, f2, f3, f4, f5, f6, f7, f8, f10, f9⟩ := hF
      dsimp only at f1 f2 f3 f4 f5 f6 f7 f8 f9 f10 ⊢
      rw [List.length_drop] at f4
      rw [at8_drop] at f6 f7 f8
      have hbig : ∀ j, i ≤ j → j < i + k → 128 ≤ at8 l j := fun j h1 h2 => by
        have : j = i ∨ j = i + 1 ∨ j = i + 2 ∨ j = i + 3 := by omega
        rcases this with rfl | rfl | rfl | rfl
        · rw [at8_get hlt, ← hx]; omega
        · exact f6 (by omega)
        · exact f7 (by omega)
        · exact f8 (by omega)
      obtain ⟨zr, hzr⟩ : ∃ zr : Int, zr = (r : Nat) := ⟨_, rfl⟩
      rw [← hzr]
      clear f2
      by_cases hre : zr = 65533
      · (first | (refine H.wg ?_; clear H; intros; rename_i w H; constructor) | refine wk ?_)
        refine Rel.range tabOk rfl rfl H ?_
        clear H
        intro w b H
        (first | (refine H.wg ?_; clear H; intros; rename_i w H; constructor) | refine wk ?_)
        refine loop_inv tabOk [0, 1, 5, 6, 7, 8, 9, 10, 11, 12, 13, 17, 20, 26, 28, 29, 30, 33, 39, 42, 47, 53, 59, 60, 61, 62, 63, 68, 74, 84, 91, 101, 105, 109, 113, 118, 121] (fun _ : Nat => []) (fun k w' => k ≤ 4 ∧ Rel W V [.obj b (.stringIter ⟨([34, 13, 10, c] : List UInt8).toArray⟩ k)] V w') (fun k _ => 4 - k) 0 ?_
        (conv => whnf)
        refine ⟨trivial, ⟨by omega, H⟩, ?_⟩
        clear H
        rintro kk w ⟨hkk, H⟩
        (conv => whnf)
        refine Rel.next H (fun hlt w H => ?_) (fun hlt => ?_)
        · have hk4 : kk < 4 := hlt
          obtain ⟨d, hd, hdec⟩ := dec_four hc hk4
          rw [hdec] at H ⊢
          (first | (refine H.wg ?_; clear H; intros; rename_i w H; constructor) | refine wk ?_)
          exact ⟨(by repeat (first | exact trivial | refine ⟨rfl, ?_⟩)), kk + 1, trivial, ⟨by omega, H⟩, by omega⟩
        · (first | (refine H.wg ?_; clear H; intros; rename_i w H; constructor) | refine wk ?_)
          refine ⟨(by repeat (first | exact trivial | refine ⟨rfl, ?_⟩)), i + k, (by repeat (first | exact trivial | refine ⟨rfl, ?_⟩)), ⟨by omega, tN_more hc (by omega) hno hbig, H.sx⟩, by omega⟩
      obtain ⟨e, t, hen, he8⟩ := enc_head f1
      have hsz := f9 (by omega)
      have hk2 := f10 (by omega)
      rw [hen] at hsz
      replace hen : EncH r e t := ⟨hen⟩
      replace hsz : t.length + 1 = k := by simpa [ByteArray.size] using hsz
      by_cases hk4 : k = 4
      · (conv => whnf)
        refine cT ?_
        (conv => whnf)
        refine cT ?_
        (first | (refine H.wg ?_; clear H; intros; rename_i w H; constructor) | refine wk ?_)
        refine convIT rfl rfl (l := e :: t) (by rw [hzr]; exact hen.out) ?_
        (conv => whnf)
        have hne : ¬ ([34, 13, 10, c] : List UInt8) = e :: t := fun h => by
          cases h
          exact absurd he8 (by decide)
        rw [decide_eq_false hne]
        (first | (refine H.wg ?_; clear H; intros; rename_i w H; constructor) | refine wk ?_)
        refine ⟨(by repeat (first | exact trivial | refine ⟨rfl, ?_⟩)), i + k, (by repeat (first | exact trivial | refine ⟨rfl, ?_⟩)), ⟨by omega, tN_more hc (by omega) hno hbig, H.sx⟩, by omega⟩
      · by_cases hmk : (k : Int) ≤ m
        · (conv => whnf)
          refine cT ?_
          (conv => whnf)
          refine cF ?_
          (conv => whnf)
          refine H.db ?_
          (conv => whnf)
          refine cT ?_
          (first | (refine H.wg ?_; clear H; intros; rename_i w H; constructor) | refine wk ?_)
          refine convIT rfl rfl (l := e :: t) (by rw [hzr]; exact hen.out) ?_
          (first | (refine H.wg ?_; clear H; intros; rename_i w H; constructor) | refine wk ?_)
          refine (indexStr_x H.data hm hc4 (by simp) he8 (by omega) (by omega)).use ?_
          rintro v w ⟨rfl, K⟩
          (have hKb := K.base; replace H := H.call0 K)
          (first | (refine H.wg ?_; clear H; intros; rename_i w H; constructor) | refine wk ?_)
          refine ⟨(by repeat (first | exact trivial | refine ⟨rfl, ?_⟩)), i + k, (by repeat (first | exact trivial | refine ⟨rfl, ?_⟩)), ⟨by omega, tN_more hc (by omega) hno hbig, H.sx⟩, by omega⟩
        · (first | (refine H.wg ?_; clear H; intros; rename_i w H; constructor) | refine wk ?_)
          refine Rel.range tabOk rfl rfl H ?_
          clear H
          intro w b H
          (first | (refine H.wg ?_; clear H; intros; rename_i w H; constructor) | refine wk ?_)
          refine loop_inv tabOk [0, 1, 5, 6, 7, 8, 9, 10, 11, 12, 13, 17, 20, 26, 28, 29, 30, 33, 39, 42, 47, 53, 59, 60, 61, 62, 63, 68, 74, 84, 91, 101, 105, 109, 113, 118, 121] (fun _ : Nat => []) (fun k w' => k ≤ 4 ∧ Rel W V [.obj b (.stringIter ⟨([34, 13, 10, c] : List UInt8).toArray⟩ k)] V w') (fun k _ => 4 - k) 0 ?_
          (conv => whnf)
          refine ⟨trivial, ⟨by omega, H⟩, ?_⟩
          clear H
          rintro kk w ⟨hkk, H⟩
          (conv => whnf)
          refine Rel.next H (fun hlt w H => ?_) (fun hlt => ?_)
          · have hk4 : kk < 4 := hlt
            obtain ⟨d, hd, hdec⟩ := dec_four hc hk4
            rw [hdec] at H ⊢
            (first | (refine H.wg ?_; clear H; intros; rename_i w H; constructor) | refine wk ?_)
            exact ⟨(by repeat (first | exact trivial | refine ⟨rfl, ?_⟩)), kk + 1, trivial, ⟨by omega, H⟩, by omega⟩
          · (first | (refine H.wg ?_; clear H; intros; rename_i w H; constructor) | refine wk ?_)
            refine ⟨(by repeat (first | exact trivial | refine ⟨rfl, ?_⟩)), i + k, (by repeat (first | exact trivial | refine ⟨rfl, ?_⟩)), ⟨by omega, tN_more hc (by omega) hno hbig, H.sx⟩, by omega⟩
end
end Go.Proofs.YtkfcdjomkcmkeaaGreatDoor
