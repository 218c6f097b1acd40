/-
  strconv.Atoi, strconv.Itoa: the shelf's contracts, for this program.
-/
import Derived.Test.YtffaffojkfalhaaGreatDoorTreB
import Derived.Shelf.Strconv.AtoiAll
import Derived.Shelf.Strconv.Itoa3
import Derived.Lib.AtoiErrMem
import Derived.Lib.AppendIntMem
namespace Go.Proofs.YtffaffojkfalhaaGreatDoor
open Go Go.RowKit Go.Shelf

def renA : Shelf.Ren := ⟨fun x => if x = 129 then 126 else if x = 171 then 62 else if x = 172 then 92 else if x = 205 then 137 else if x = 243 then 86 else if x = 244 then 102 else if x = 245 then 103 else if x = 246 then 97 else if x = 247 then 117 else if x = 279 then 118 else if x = 280 then 119 else if x = 281 then 120 else if x = 282 then 121 else if x = 283 then 110 else if x = 284 then 111 else if x = 285 then 112 else if x = 286 then 113 else if x = 287 then 135 else if x = 316 then 136 else if x = 317 then 125 else if x = 318 then 127 else if x = 319 then 128 else if x = 320 then 129 else if x = 321 then 140 else if x = 322 then 141 else if x = 337 then 138 else if x = 338 then 139 else x, fun x => if x = 0 then 0 else if x = 2 then 2 else if x = 3 then 3 else if x = 4 then 4 else if x = 5 then 5 else if x = 9 then 9 else if x = 20 then 20 else if x = 21 then 21 else if x = 37 then 22 else if x = 46 then 123 else if x = 51 then 173 else if x = 53 then 102 else if x = 75 then 135 else if x = 76 then 136 else if x = 80 then 118 else if x = 85 then 158 else if x = 127 then 187 else if x = 143 then 188 else if x = 145 then 190 else if x = 167 then 157 else if x = 168 then 160 else if x = 171 then 150 else if x = 173 then 153 else if x = 175 then 179 else if x = 210 then 183 else if x = 212 then 172 else if x = 213 then 174 else if x = 232 then 191 else if x = 233 then 192 else x, fun x => if x = 15 then 4 else if x = 16 then 5 else if x = 17 then 3 else if x = 18 then 6 else if x = 19 then 7 else x⟩
set_option maxRecDepth 100000 in
set_option maxHeartbeats 4000000 in
theorem laysA : LaysC.n172 Tryz.prog renA where
  mixed := by kernel_rfl
  f129 := Tryz.func126.trans (congrArg some (by kernel_rfl))
  f171 := Tryz.func62.trans (congrArg some (by kernel_rfl))
  f172 := Tryz.func92.trans (congrArg some (by kernel_rfl))
  f205 := Tryz.func137.trans (congrArg some (by kernel_rfl))
  f243 := Tryz.func86.trans (congrArg some (by kernel_rfl))
  f244 := Tryz.func102.trans (congrArg some (by kernel_rfl))
  f245 := Tryz.func103.trans (congrArg some (by kernel_rfl))
  f246 := Tryz.func97.trans (congrArg some (by kernel_rfl))
  f247 := Tryz.func117.trans (congrArg some (by kernel_rfl))
  f279 := Tryz.func118.trans (congrArg some (by kernel_rfl))
  f280 := Tryz.func119.trans (congrArg some (by kernel_rfl))
  f281 := Tryz.func120.trans (congrArg some (by kernel_rfl))
  f282 := Tryz.func121.trans (congrArg some (by kernel_rfl))
  f283 := Tryz.func110.trans (congrArg some (by kernel_rfl))
  f284 := Tryz.func111.trans (congrArg some (by kernel_rfl))
  f285 := Tryz.func112.trans (congrArg some (by kernel_rfl))
  f286 := Tryz.func113.trans (congrArg some (by kernel_rfl))
  f287 := Tryz.func135.trans (congrArg some (by kernel_rfl))
  f316 := Tryz.func136.trans (congrArg some (by kernel_rfl))
  f317 := Tryz.func125.trans (congrArg some (by kernel_rfl))
  f318 := Tryz.func127.trans (congrArg some (by kernel_rfl))
  f319 := Tryz.func128.trans (congrArg some (by kernel_rfl))
  f320 := Tryz.func129.trans (congrArg some (by kernel_rfl))
  f321 := Tryz.func140.trans (congrArg some (by kernel_rfl))
  f322 := Tryz.func141.trans (congrArg some (by kernel_rfl))
  f337 := Tryz.func138.trans (congrArg some (by kernel_rfl))
  f338 := Tryz.func139.trans (congrArg some (by kernel_rfl))
  t0 := Tryz.underlying0
  a0 := Tryz.isAgg0
  z0 := Tryz.sizeOf0
  v0 := Tryz.zeroValue0
  t2 := Tryz.underlying2
  a2 := Tryz.isAgg2
  z2 := Tryz.sizeOf2
  v2 := Tryz.zeroValue2
  t3 := Tryz.underlying3
  a3 := Tryz.isAgg3
  z3 := Tryz.sizeOf3
  v3 := Tryz.zeroValue3
  t4 := Tryz.underlying4
  a4 := Tryz.isAgg4
  z4 := Tryz.sizeOf4
  v4 := Tryz.zeroValue4
  t5 := Tryz.underlying5
  a5 := Tryz.isAgg5
  z5 := Tryz.sizeOf5
  v5 := Tryz.zeroValue5
  t9 := Tryz.underlying9
  a9 := Tryz.isAgg9
  z9 := Tryz.sizeOf9
  v9 := Tryz.zeroValue9
  t20 := Tryz.underlying20
  a20 := Tryz.isAgg20
  z20 := Tryz.sizeOf20
  v20 := Tryz.zeroValue20
  t21 := Tryz.underlying21
  a21 := Tryz.isAgg21
  z21 := Tryz.sizeOf21
  v21 := Tryz.zeroValue21
  t37 := Tryz.underlying22
  a37 := Tryz.isAgg22
  z37 := Tryz.sizeOf22
  v37 := Tryz.zeroValue22
  t46 := Tryz.underlying123
  a46 := Tryz.isAgg123
  z46 := Tryz.sizeOf123
  v46 := Tryz.zeroValue123
  t51 := Tryz.underlying173
  a51 := Tryz.isAgg173
  z51 := Tryz.sizeOf173
  v51 := Tryz.zeroValue173
  t53 := Tryz.underlying102
  a53 := Tryz.isAgg102
  z53 := Tryz.sizeOf102
  v53 := Tryz.zeroValue102
  t75 := Tryz.underlying135
  a75 := Tryz.isAgg135
  z75 := Tryz.sizeOf135
  v75 := Tryz.zeroValue135
  t76 := Tryz.underlying136
  a76 := Tryz.isAgg136
  z76 := Tryz.sizeOf136
  v76 := Tryz.zeroValue136
  t85 := Tryz.underlying158
  a85 := Tryz.isAgg158
  z85 := Tryz.sizeOf158
  v85 := Tryz.zeroValue158
  t127 := Tryz.underlying187
  a127 := Tryz.isAgg187
  z127 := Tryz.sizeOf187
  v127 := Tryz.zeroValue187
  t143 := Tryz.underlying188
  a143 := Tryz.isAgg188
  z143 := Tryz.sizeOf188
  v143 := Tryz.zeroValue188
  t145 := Tryz.underlying190
  a145 := Tryz.isAgg190
  z145 := Tryz.sizeOf190
  v145 := Tryz.zeroValue190
  t167 := Tryz.underlying157
  a167 := Tryz.isAgg157
  z167 := Tryz.sizeOf157
  v167 := Tryz.zeroValue157
  t168 := Tryz.underlying160
  a168 := Tryz.isAgg160
  z168 := Tryz.sizeOf160
  v168 := Tryz.zeroValue160
  t171 := Tryz.underlying150
  a171 := Tryz.isAgg150
  z171 := Tryz.sizeOf150
  v171 := Tryz.zeroValue150
  t173 := Tryz.underlying153
  a173 := Tryz.isAgg153
  z173 := Tryz.sizeOf153
  v173 := Tryz.zeroValue153
  t175 := Tryz.underlying179
  a175 := Tryz.isAgg179
  z175 := Tryz.sizeOf179
  v175 := Tryz.zeroValue179
  t210 := Tryz.underlying183
  a210 := Tryz.isAgg183
  z210 := Tryz.sizeOf183
  v210 := Tryz.zeroValue183
  t212 := Tryz.underlying172
  a212 := Tryz.isAgg172
  z212 := Tryz.sizeOf172
  v212 := Tryz.zeroValue172
  t213 := Tryz.underlying174
  a213 := Tryz.isAgg174
  z213 := Tryz.sizeOf174
  t232 := Tryz.underlying191
  a232 := Tryz.isAgg191
  z232 := Tryz.sizeOf191
  v232 := Tryz.zeroValue191
  t233 := Tryz.underlying192
  a233 := Tryz.isAgg192
  z233 := Tryz.sizeOf192
  v233 := Tryz.zeroValue192
  g15 := by kernel_rfl
  g16 := by kernel_rfl
  g17 := by kernel_rfl
  g18 := by kernel_rfl
  g19 := by kernel_rfl
  t80 := Tryz.underlying118
  a80 := Tryz.isAgg118
  z80 := Tryz.sizeOf118
  v80 := Tryz.zeroValue118
  i0 := by kernel_rfl
  i2 := by kernel_rfl
  i3 := by kernel_rfl
  i4 := by kernel_rfl
  i5 := by kernel_rfl
  i9 := by kernel_rfl
  i20 := by kernel_rfl
  i21 := by kernel_rfl
  i37 := by kernel_rfl
  i46 := by kernel_rfl
  i51 := by kernel_rfl
  i53 := by kernel_rfl
  i75 := by kernel_rfl
  i76 := by kernel_rfl
  i80 := by kernel_rfl
  i85 := by kernel_rfl
  i127 := by kernel_rfl
  i143 := by kernel_rfl
  i145 := by kernel_rfl
  i167 := by kernel_rfl
  i168 := by kernel_rfl
  i171 := by kernel_rfl
  i173 := by kernel_rfl
  i175 := by kernel_rfl
  i210 := by kernel_rfl
  i212 := by kernel_rfl
  i232 := by kernel_rfl
  i233 := by kernel_rfl
  m15 := by kernel_rfl
  m16 := by kernel_rfl
  m17 := by kernel_rfl
  m18 := by kernel_rfl
  m19 := by kernel_rfl
  c0 := by kernel_rfl
  c2 := by kernel_rfl
  c3 := by kernel_rfl
  c4 := by kernel_rfl
  c5 := by kernel_rfl
  c9 := by kernel_rfl
  c20 := by kernel_rfl
  c21 := by kernel_rfl
  c37 := by kernel_rfl
  c46 := by kernel_rfl
  c51 := by kernel_rfl
  c53 := by kernel_rfl
  c75 := by kernel_rfl
  c76 := by kernel_rfl
  c80 := by kernel_rfl
  c85 := by kernel_rfl
  c127 := by kernel_rfl
  c143 := by kernel_rfl
  c145 := by kernel_rfl
  c167 := by kernel_rfl
  c168 := by kernel_rfl
  c171 := by kernel_rfl
  c173 := by kernel_rfl
  c175 := by kernel_rfl
  c210 := by kernel_rfl
  c212 := by kernel_rfl
  c213 := by kernel_rfl
  c232 := by kernel_rfl
  c233 := by kernel_rfl
/-- what strconv reads of its package variables -/
structure NumT (V : World) : Prop where
  pow : Lib.TabIs Tryz.prog V "internal/strconv.uint64pow10" .u64 Lib.pow10Tab
  es : ∃ t p, V.cell? ⟨4, 0, none⟩ = some (.iface t p)
  er : ∃ t p, V.cell? ⟨5, 0, none⟩ = some (.iface t p)
theorem tab_up {P : Program} {V W : World} {n : String} {k : IntKind} {zs : List Int} (h : Lib.TabIs P V n k zs) (hs : Sub V W) : Lib.TabIs P W n k zs := by
  unfold Lib.TabIs World.var? at *
  cases hg : P.globalNamed n with
  | none => rw [hg] at h; cases h
  | some g =>
    rw [hg] at h
    simp only [Option.bind_some] at h ⊢
    split at h
    · rename_i cs t f hc
      rw [hs.cel _ _ _ _ hc]
      exact h
    · cases h
theorem NumT.up {V W : World} (h : NumT V) (k : Sub V W) : NumT W := ⟨tab_up h.pow k, let ⟨t, p, h⟩ := h.es; ⟨t, p, k.cell h⟩, let ⟨t, p, h⟩ := h.er; ⟨t, p, k.cell h⟩⟩
theorem itoa_tree {V W : World} (hV : Sub V W) (hE : NumT V) {n : Int} (hn : I64 n) : Ret Tryz.prog 62 [iv n].toArray W fun q w' => q = str (Lib.itoa n) ∧ Rel W V [] V w' := by
  have h := Any.strconv_Itoa (ρ := renA) { laysA with } n hn.1 hn.2 W (tab_up hE.pow hV)
  exact Ret.ofCalls Tryz.func62 (by kernel_rfl) (by kernel_rfl) (Calls.mono' h fun e w' ⟨he, k, os, hw⟩ => ⟨_, he, rfl, by rw [hw]; exact (Rel.start hV).ext (Lib.below_grow _ _ (Nat.le_refl _) _ _)⟩)
/-- what Atoi answers -/
inductive AtoiR (s : List UInt8) : Value → Prop where
  | ok {v : Int} (h : Lib.atoiAll s = .ok v) : AtoiR s (.tuple #[iv v, .nilIface])
  | err {a : Int} {t : TypeId} {p : Value} (h : ∀ v, Lib.atoiAll s ≠ .ok v) : AtoiR s (.tuple #[iv a, .iface t p])
theorem atoi_tree {V W : World} (hV : Sub V W) (hE : NumT V) {s : List UInt8} (hs : s.length ≤ 100000) : Ret Tryz.prog 92 [str s].toArray W fun q w' => AtoiR s q ∧ Rel W V [] V w' := by
  have hsz : (⟨s.toArray⟩ : ByteArray).size = s.length := rfl
  have hl : (⟨s.toArray⟩ : ByteArray).data.toList = s := rfl
  rcases ha : Lib.atoiAll s with v | _ | _
  · have h := Any.strconv_Atoi_ok (ρ := renA) laysA ⟨s.toArray⟩ (by omega) v (by rw [hl]; exact ha) W
    refine Ret.ofCalls Tryz.func92 (by kernel_rfl) (by kernel_rfl) (Calls.mono' h fun e w' ⟨he, hw⟩ => ⟨_, he, .ok ha, ?_⟩)
    rcases hw with rfl | ⟨t, rfl⟩
    · exact Rel.start hV
    · exact (Rel.start hV).ext (Lib.bytesWorld_below _ _ _)
  · obtain ⟨t, p, hp⟩ := hE.es
    have h := Any.strconv_Atoi_syntax (ρ := renA) laysA ⟨s.toArray⟩ (by omega) (by rw [hl]; exact ha) _ W (hV.cell hp) (.inr ⟨t, p, rfl⟩)
    exact Ret.ofCalls Tryz.func92 (by kernel_rfl) (by kernel_rfl) (Calls.mono' h fun e w' ⟨N, he, _, _, hw⟩ => ⟨_, he, .err (fun v h => by rw [ha] at h; cases h), (Rel.start hV).ext hw⟩)
  · obtain ⟨t, p, hp⟩ := hE.er
    have h := Any.strconv_Atoi_range (ρ := renA) laysA ⟨s.toArray⟩ (by omega) (by rw [hl]; exact ha) _ W (hV.cell hp) (.inr ⟨t, p, rfl⟩)
    exact Ret.ofCalls Tryz.func92 (by kernel_rfl) (by kernel_rfl) (Calls.mono' h fun e w' ⟨N, he, _, _, hw⟩ => ⟨_, he, .err (fun v h => by rw [ha] at h; cases h), (Rel.start hV).ext hw⟩)
section
variable {w0 V0 V w : World} {own : List Res} {rb N : Nat} {r o : Sl} {hs : List BkH} {s : RS}
theorem num_take {c : UInt8} {t0 : List UInt8} {i0 k : Nat} (hi : c = 45 ∧ i0 = 1 ∨ c ≠ 45 ∧ i0 = 0) (h0 : i0 ≤ k) (hk : k ≤ (c :: t0).length) (hd : ∀ x ∈ ((c :: t0).take k).drop i0, isDg x = true) (he : ∀ x y, (c :: t0).drop k = x :: y → isDg x = false) : numT (c :: t0) = (c :: t0).take k := by
  rw [numT_cons]
  rcases hi with ⟨rfl, rfl⟩ | ⟨hc, rfl⟩
  · rw [if_pos rfl]
    obtain ⟨k, rfl⟩ : ∃ j, k = j + 1 := ⟨k - 1, by omega⟩
    rw [List.take_succ_cons] at hd ⊢
    rw [List.drop_succ_cons] at he
    congr 1
    conv => lhs; rw [← List.take_append_drop k t0]
    exact (takeWhile_stop (fun x hx => hd x (by simpa using hx)) he).1
  · rw [if_neg hc]
    conv => lhs; rw [← List.take_append_drop k (c :: t0)]
    exact (takeWhile_stop (fun x hx => hd x (by simpa using hx)) he).1
theorem number_tree (hE : NumT V) (H : Rel w0 V0 (RdO rb r o hs s ++ own) V w) (hR : RdV N V r hs s) (hN : N ≤ 5000) {c : UInt8} (hc : pk s = some c) : Cal Tryz.prog 74 [.pointer (some ⟨rb, 0, none⟩)].toArray w (fun q w' => ∃ v s', nuR s = some (v, s') ∧ q = iv v ∧ RdR w0 V0 rb own N V s' (fun _ => True) w') (Bad w0 (nuR s = none)) := by
  have hcnt := hR.cnt
  obtain ⟨t0, ht0, htl⟩ := pk_rest hc
  obtain ⟨l, hl⟩ : ∃ l, l = c :: t0 := ⟨_, rfl⟩
  have hll : l.length = t0.length + 1 := by rw [hl]; rfl
  have hc8 := c.toNat_lt
  obtain ⟨i0, hi0, hi1⟩ : ∃ i0 : Nat, i0 ≤ 1 ∧ (c = 45 ∧ i0 = 1 ∨ c ≠ 45 ∧ i0 = 0) := by
    by_cases h : c = 45
    · exact ⟨1, by omega, .inl ⟨h, rfl⟩⟩
    · exact ⟨0, by omega, .inr ⟨h, rfl⟩⟩
  refine cal_of_sem tabOk Tryz.func74 rfl (by kernel_rfl) 79 rfl (by simp) [0, 2, 3, 4, 5, 6, 15, 44, 66] ?_
  refine SemC.seqGo tabOk ?_
  (first | (refine H.wg ?_; clear H; intros; rename_i w H; constructor) | refine wk ?_)
  refine SemC.seqGo tabOk ?_
  (first | (refine H.wg ?_; clear H; intros; rename_i w H; constructor) | refine wk ?_)
  refine (sk0_tree H hR hN).use ?_
  clear H
  rintro v w ⟨rfl, V1, r1, o1, hs1, hV1, hR1, _, H⟩
  have hr1 := hR1.rest
  rw [show (sk0 s).rest = s.rest.dropWhile bkB from rfl, ht0, ← hl] at hr1
  have hl1 := hr1.len
  have hc1 := hr1.cap
  obtain ⟨p0, c0⟩ := hr1.at1 (g := bv) (fun _ => rfl) (show 0 < l.length by omega)
  have hl0 : l[0]'(by omega) = c := by simp [hl]
  rw [hl0] at c0
  simp only [RdO, List.cons_append, List.nil_append] at H
  (first | (refine H.wg ?_; clear H; intros; rename_i w H; constructor) | refine wk ?_)
  refine SemC.seqGo tabOk ?_
  (first | (refine H.wg ?_; clear H; intros; rename_i w H; constructor) | refine wk ?_)
  refine SemC.seqCut tabOk (fun _ : Unit => [(0, .pointer (some ⟨rb, 0, none⟩)), (3, iv (i0 : Int))]) (fun _ w' => Rel w0 V0 (.blk rb [r1.v, iv (((sk0 s).cnt : Nat) : Int), str (sk0 s).last, o1.v] 88 :: .row o1 72 2 (hs1.flatMap bkC) :: own) V1 w') ?_ ?_
  · rcases hi1 with ⟨h1, rfl⟩ | ⟨h1, rfl⟩
    · have : c.toNat = 45 := by rw [h1]; rfl
      (first | (refine H.wg ?_; clear H; intros; rename_i w H; constructor) | refine wk ?_)
      exact ⟨(), (by repeat (first | exact trivial | refine ⟨rfl, ?_⟩)), H⟩
    · have : c.toNat ≠ 45 := fun e => h1 (UInt8.toNat_inj.1 e)
      (first | (refine H.wg ?_; clear H; intros; rename_i w H; constructor) | refine wk ?_)
      exact ⟨(), (by repeat (first | exact trivial | refine ⟨rfl, ?_⟩)), H⟩
  clear H
  rintro _ w H
  refine SemC.seqCut tabOk (fun k : Nat => [(0, .pointer (some ⟨rb, 0, none⟩)), (3, iv (k : Int))]) (fun k w' => (k ≤ l.length ∧ numT l = l.take k) ∧ Rel w0 V0 (.blk rb [r1.v, iv (((sk0 s).cnt : Nat) : Int), str (sk0 s).last, o1.v] 88 :: .row o1 72 2 (hs1.flatMap bkC) :: own) V1 w') ?_ ?_
  · (first | (refine H.wg ?_; clear H; intros; rename_i w H; constructor) | refine wk ?_)
    refine SemC.cut 0 (fun k : Nat => [(0, .pointer (some ⟨rb, 0, none⟩)), (3, iv (k : Int))]) (fun k w' => (k ≤ l.length ∧ numT l = l.take k) ∧ Rel w0 V0 (.blk rb [r1.v, iv (((sk0 s).cnt : Nat) : Int), str (sk0 s).last, o1.v] 88 :: .row o1 72 2 (hs1.flatMap bkC) :: own) V1 w') ?_ ?_
    · refine loop_inv (S := Nat) tabOk [0, 2, 4, 5, 6, 15, 66] (fun k => [(3, iv (k : Int))]) (fun k w' => (i0 ≤ k ∧ k ≤ l.length ∧ ∀ x ∈ (l.take k).drop i0, isDg x = true) ∧ Rel w0 V0 (.blk rb [r1.v, iv (((sk0 s).cnt : Nat) : Int), str (sk0 s).last, o1.v] 88 :: .row o1 72 2 (hs1.flatMap bkC) :: own) V1 w') (fun k _ => l.length - k) i0 ?_
      (conv => whnf)
      refine ⟨(by repeat (first | exact trivial | refine ⟨rfl, ?_⟩)), ⟨⟨Nat.le_refl _, by omega, fun x hx => by rw [List.drop_eq_nil_of_le (by simp; omega)] at hx; simp at hx⟩, H⟩, ?_⟩
      clear H
      rintro k w ⟨⟨h0, hk, hd⟩, H⟩
      by_cases hlt : k < l.length
      rotate_left
      · (first | (refine H.wg ?_; clear H; intros; rename_i w H; constructor) | refine wk ?_)
        refine ⟨k, (by repeat (first | exact trivial | refine ⟨rfl, ?_⟩)), ⟨hk, ?_⟩, H⟩
        rw [hl]
        rw [hl] at hd hlt
        exact num_take hi1 h0 (by rw [← hl]; exact hk) hd fun x y h => by
          rw [List.drop_eq_nil_of_le (by omega)] at h
          cases h
      · obtain ⟨p1, c1⟩ := hr1.at1 (g := bv) (fun _ => rfl) hlt
        obtain ⟨x, hx⟩ : ∃ x, x = l[k] := ⟨_, rfl⟩
        rw [← hx] at c1
        have hx8 := x.toNat_lt
        by_cases hdg : 48 ≤ x.toNat ∧ x.toNat ≤ 57
        · (first | (refine H.wg ?_; clear H; intros; rename_i w H; constructor) | refine wk ?_)
          refine ⟨(by repeat (first | exact trivial | refine ⟨rfl, ?_⟩)), k + 1, (by repeat (first | exact trivial | refine ⟨rfl, ?_⟩)), ⟨⟨by omega, by omega, fun y hy => ?_⟩, H⟩, by omega⟩
          rw [List.take_succ_eq_append_getElem hlt, ← hx, List.drop_append_of_le_length (by simp; omega)] at hy
          rcases List.mem_append.1 hy with hy | hy
          · exact hd y hy
          · simp only [List.mem_singleton] at hy
            rw [hy]
            simp [isDg, hdg]
        · have stop : numT l = l.take k := by
            have hxl : ∀ z y, l.drop k = z :: y → isDg z = false := fun z y h => by
              rw [List.drop_eq_getElem_cons hlt] at h
              cases h
              rw [← hx]
              simp only [isDg, Bool.and_eq_false_iff, decide_eq_false_iff_not]
              omega
            rw [hl] at hd hxl hk ⊢
            exact num_take hi1 h0 hk hd hxl
          by_cases hlo : 48 ≤ x.toNat
          · (first | (refine H.wg ?_; clear H; intros; rename_i w H; constructor) | refine wk ?_)
            exact ⟨k, (by repeat (first | exact trivial | refine ⟨rfl, ?_⟩)), ⟨hk, stop⟩, H⟩
          · (first | (refine H.wg ?_; clear H; intros; rename_i w H; constructor) | refine wk ?_)
            exact ⟨k, (by repeat (first | exact trivial | refine ⟨rfl, ?_⟩)), ⟨hk, stop⟩, H⟩
    · clear H
      rintro k w ⟨hk, H⟩
      (first | (refine H.wg ?_; clear H; intros; rename_i w H; constructor) | refine wk ?_)
      exact ⟨k, (by repeat (first | exact trivial | refine ⟨rfl, ?_⟩)), hk, H⟩
  clear H
  rintro k w ⟨⟨hk, hnum⟩, H⟩
  have hcut := hr1.tk (k := k) hk
  refine SemC.seqGo tabOk ?_
  (first | (refine H.wg ?_; clear H; intros; rename_i w H; constructor) | refine wk ?_)
  refine ⟨l.take k, by rw [List.length_take, Int.toNat_natCast]; omega, byC_map _ ▸ (hcut.up H.data).cells, ?_⟩
  (first | (refine H.wg ?_; clear H; intros; rename_i w H; constructor) | refine wk ?_)
  have e : nuR s = match trNum (l.take k) with
    | none => none
    | some v => some (v, { sk0 s with rest := l.drop k }) := by
    unfold nuR
    rw [ht0, ← hl, hnum]
    cases trNum (l.take k) with
    | none => rfl
    | some v =>
      dsimp only
      rw [List.length_take, Nat.min_eq_left hk]
  refine SemC.seqGo tabOk ?_
  (first | (refine H.wg ?_; clear H; intros; rename_i w H; constructor) | refine wk ?_)
  refine (atoi_tree H.data (hE.up hV1) (s := l.take k) (by rw [List.length_take]; omega)).use ?_
  rintro v w ⟨hat, K⟩
  (have hKb := K.base; replace H := H.call0 K)
  cases hat with
  | @err a t p hno =>
    have hn : trNum (l.take k) = none := by
      unfold trNum
      split
      · rename_i v hv
        exact absurd hv (hno v)
      · rfl
    rw [hn] at e
    (first | (refine H.wg ?_; clear H; intros; rename_i w H; constructor) | refine wk ?_)
    refine SemC.seqGo tabOk ?_
    (first | (refine H.wg ?_; clear H; intros; rename_i w H; constructor) | refine wk ?_)
    refine mk_wrong ?_
    (first | (refine H.wg ?_; clear H; intros; rename_i w H; constructor) | refine wk ?_)
    exact ⟨e, rfl, H.base⟩
  | @ok z hz =>
    (first | (refine H.wg ?_; clear H; intros; rename_i w H; constructor) | refine wk ?_)
    refine SemC.seqGo tabOk ?_
    (first | (refine H.wg ?_; clear H; intros; rename_i w H; constructor) | refine wk ?_)
    refine (itoa_tree H.data (hE.up hV1) (Lib.atoiAll_bounds hz)).use ?_
    rintro v w ⟨rfl, K⟩
    (have hKb := K.base; replace H := H.call0 K)
    by_cases hit : Lib.itoa z = l.take k
    · have hn : trNum (l.take k) = some z := by
        unfold trNum
        rw [hz]
        simp only
        rw [if_pos hit]
      rw [hn] at e
      have hd := hr1.dr (k := k) hk
      have hk1 : 1 ≤ k := by
        rcases Nat.eq_zero_or_pos k with h | h
        · exfalso
          rw [h, List.take_zero] at hit
          obtain ⟨c, r, hc, _⟩ := itoa_ne z
          rw [hc] at hit
          cases hit
        · exact h
      (first | (refine H.wg ?_; clear H; intros; rename_i w H; constructor) | refine wk ?_)
      refine condG_false (by rw [decide_eq_true hit]; rfl) ?_
      (first | (refine H.wg ?_; clear H; intros; rename_i w H; constructor) | refine wk ?_)
      refine SemC.seqGo tabOk ?_
      (first | (refine H.wg ?_; clear H; intros; rename_i w H; constructor) | refine wk ?_)
      refine SemC.seqGo tabOk ?_
      (first | (refine H.wg ?_; clear H; intros; rename_i w H; constructor) | refine wk ?_)
      refine SemC.go tabOk ?_
      (first | (refine H.wg ?_; clear H; intros; rename_i w H; constructor) | refine wk ?_)
      refine ⟨z, _, e, rfl, V1, _, o1, hs1, hV1, ⟨hd, hR1.oth, ?_, hR1.ol⟩, trivial, H⟩
      show s.cnt + 1 + (l.drop k).length ≤ N
      rw [List.length_drop]
      omega
    · have hn : trNum (l.take k) = none := by
        unfold trNum
        rw [hz]
        simp only
        rw [if_neg hit]
      rw [hn] at e
      (first | (refine H.wg ?_; clear H; intros; rename_i w H; constructor) | refine wk ?_)
      refine condG_true (by rw [decide_eq_false hit]; rfl) ?_
      (first | (refine H.wg ?_; clear H; intros; rename_i w H; constructor) | refine wk ?_)
      refine mk_wrong ?_
      (first | (refine H.wg ?_; clear H; intros; rename_i w H; constructor) | refine wk ?_)
      exact ⟨e, rfl, H.base⟩
end
end Go.Proofs.YtffaffojkfalhaaGreatDoor
