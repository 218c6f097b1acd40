/-
  Sound files: read.
-/
import Derived.Test.YtjfcpnlacodjjaaSndH
namespace Go.Proofs.Ytjfcpnlacodjjaa
open Go Go.RowKit

abbrev filC (rate ch coding : Nat) (rs rn : Sl) : List Value := [iv rate, iv ch, iv coding, rs.v, rn.v]
/-- the last chunk F -/
def fmtS (a : Nat × Nat × Nat) (c : Chk) : Nat × Nat × Nat := if c.1 = 70 then (256 * at8 c.2 0 + at8 c.2 1, at8 c.2 2, at8 c.2 3) else a
def fmtF (l : List Chk) : Nat × Nat × Nat := l.foldl fmtS (0, 0, 0)
theorem fmtF_snoc (l : List Chk) (c : Chk) : fmtF (l ++ [c]) = fmtS (fmtF l) c := by simp [fmtF, List.foldl_append]
theorem fmtF_filter (l : List Chk) : fmtF l = fmtF (l.filter isFD) := by
  have : ∀ (l : List Chk) (a : Nat × Nat × Nat), l.foldl fmtS a = (l.filter isFD).foldl fmtS a := by
    intro l
    induction l with
    | nil => intro a; rfl
    | cons c l ih =>
      intro a
      by_cases h : isFD c = true
      · rw [List.filter_cons_of_pos h, List.foldl_cons, List.foldl_cons, ih]
      · rw [List.filter_cons_of_neg h, List.foldl_cons, ih]
        congr 1
        unfold fmtS
        rw [if_neg]
        intro h1
        exact h ((isFD_nat c).2 (.inl (by rw [h1]; rfl)))
  exact this l _
theorem snoc_take {α : Type} {l : List α} {k : Nat} (h : k < l.length) : l.take (k + 1) = l.take k ++ [l[k]] := List.take_succ_eq_append_getElem h
def seenF (l : List Chk) : List UInt8 := (l.filter isFD).map (·.1)
theorem seenF_snoc (l : List Chk) (c : Chk) : seenF (l ++ [c]) = seenF l ++ (if isFD c = true then [c.1] else []) := by
  unfold seenF
  rw [List.filter_append, List.map_append]
  congr 1
  split
  · rename_i h; rw [List.filter_cons_of_pos h]; rfl
  · rename_i h; rw [List.filter_cons_of_neg h]; rfl
theorem seen_two {cs : List Chk} (h : seenF cs = [70, 68]) : ∃ f d, cs.filter isFD = [(70, f), (68, d)] := by
  unfold seenF at h
  match hf : cs.filter isFD, h with
  | [(a, f), (b, d)], h =>
    simp only [List.map_cons, List.map_nil, List.cons.injEq, and_true] at h
    obtain ⟨rfl, rfl⟩ := h
    exact ⟨f, d, rfl⟩
theorem parts_none {cs : List Chk} (h : seenF cs ≠ [70, 68]) : sndParts cs = none := by
  cases hp : sndParts cs with
  | none => rfl
  | some x =>
    obtain ⟨f, d⟩ := x
    exact absurd (by unfold seenF; rw [filter_two hp]; rfl) h
theorem data_at {cs : List Chk} {f d : List UInt8} (h : cs.filter isFD = [(70, f), (68, d)]) : ∃ i, ∃ hi : i < cs.length, cs[i] = (68, d) ∧ ∀ k, k < i → (hk : k < cs.length) → cs[k].1 ≠ 68 := by
  have hm : ((68, d) : Chk) ∈ cs := (List.mem_filter.1 (by rw [h]; simp : ((68, d) : Chk) ∈ cs.filter isFD)).1
  have hlt : cs.findIdx (fun c => c.1 == 68) < cs.length := List.findIdx_lt_length_of_exists ⟨_, hm, rfl⟩
  refine ⟨_, hlt, ?_, fun k hk hk2 => ?_⟩
  · have h1 : cs[cs.findIdx (fun c => c.1 == 68)].1 = 68 := by simpa using List.findIdx_getElem (w := hlt)
    have h2 : cs[cs.findIdx (fun c => c.1 == 68)] ∈ cs.filter isFD := List.mem_filter.2 ⟨List.getElem_mem hlt, by rw [isFD_nat]; right; rw [h1]; rfl⟩
    rw [h] at h2
    simp only [List.mem_cons, List.not_mem_nil, or_false] at h2
    rcases h2 with h2 | h2
    · rw [h2] at h1
      cases h1
    · exact h2
  · have := List.not_of_lt_findIdx hk
    simpa using this
theorem data_le {cs : List Chk} {c : Chk} (h : c ∈ cs.filter isFD) : c.2.length ≤ (cs.flatMap putChk).length := by
  have := flat_ge (List.mem_filter.1 h).1
  omega
/-- what read returns -/
structure FileR (W V : World) (res : Option Snd) (v : Value) (w' : World) : Prop where
  ex : ∃ (V' : World) (rs rn : Sl), Sub V V' ∧ Rel W V [] V' w' ∧ (match res with
    | none => v = .tuple #[.agg (filC 0 0 0 ⟨none, 0, 0⟩ ⟨none, 0, 0⟩).toArray, .bool false]
    | some x => v = .tuple #[.agg (filC x.rate x.ch x.coding rs rn).toArray, .bool true] ∧ SlF itC V' rs x.smp ∧ Nts V' rn x.notes)
theorem enc70 : Utf8.encode (wr .i32 ((70 : UInt8).toNat : Int)) = ⟨[70].toArray⟩ := by decide +kernel
theorem enc68 : Utf8.encode (wr .i32 ((68 : UInt8).toNat : Int)) = ⟨[68].toArray⟩ := by decide +kernel
theorem enc2 : runesBytes [70, 68] = ⟨[70, 68].toArray⟩ := by decide +kernel
theorem convIT {P : Program} {w : World} {s d : TypeId} (hs : (P.underlying s).isSome = true) (hd : P.underlying d = some .string) {k : IntKind} {n : Int} {l : List UInt8} (hn : Utf8.encode n = ⟨l.toArray⟩) {G : Value → World → Prop} (hk : G (str l) w) : SemOk P (convert s d (.int k n)) w G :=
  Rel.convIS hs hd (by rw [hn]; exact hk)
theorem fOk_ch {f d : List UInt8} (h : ¬ (1 ≤ at8 f 2 ∧ at8 f 2 ≤ 2)) : ¬ fOk f d := fun h2 => h h2.2.1
section
variable {V W : World}
set_option maxRecDepth 100000 in
set_option maxHeartbeats 1000000 in
theorem read_spec (hV : Sub V W) {s : Sl} {l : List UInt8} (hs : Byt V s l) (hl : l.length ≤ 1000) : Ret Try.prog 41 [s.v].toArray W (FileR W V (sndFile l)) := by
  have H := Rel.start hV
  have hlen := hs.len
  refine cal_of_vc tabOk Try.func41 rfl (by kernel_rfl) 129 rfl (by simp) [0, 2, 3, 4, 5, 6, 7, 8, 9, 10, 17, 19, 20, 21, 22, 27, 36, 41, 73, 103, 121] ?_
  ((repeat ((conv => whnf); first | refine an ?_ | refine H.ce ?_ | refine H.db ?_ | refine ea ?_ | refine ol ?_ | (refine H.st ?_; (conv => whnf); clear H; intro w H) | refine cT ?_ | refine cF ?_ | refine cN ?_ | refine cM ?_ | refine H.lw ?_ | refine H.ll ?_)); (conv => whnf))
  ((first | refine Rel.nwD H ?_ | refine Rel.nw H ?_); clear H; intro w b2 H)
  ((repeat ((conv => whnf); first | refine an ?_ | ((first | refine H.nwD ?_ | refine H.nw ?_); clear H; intro w _ H) | refine H.ce ?_ | refine H.db ?_ | refine ea ?_ | refine ol ?_ | (refine H.st ?_; (conv => whnf); clear H; intro w H) | refine cT ?_ | refine cF ?_ | refine cN ?_ | refine cM ?_ | refine H.lw ?_ | refine H.ll ?_)); (conv => whnf))
  refine (readChunks_spec H.data hs (by omega)).use ?_
  rintro v w ⟨V2, r, hV2, K, hres⟩
  (have hKb := K.base; replace H := H.call0 K)
  cases hc : sndChks l with
  | none =>
    rw [hc] at hres
    dsimp only at hres
    subst hres
    have e : sndFile l = none := by rw [sndFile, hc]
    rw [e]
    ((repeat ((conv => whnf); first | refine an ?_ | ((first | refine H.nwD ?_ | refine H.nw ?_); clear H; intro w _ H) | refine H.ce ?_ | refine H.db ?_ | refine ea ?_ | refine ol ?_ | (refine H.st ?_; (conv => whnf); clear H; intro w H) | refine cT ?_ | refine cF ?_ | refine cN ?_ | refine cM ?_ | refine H.lw ?_ | refine H.ll ?_)); (conv => whnf))
    exact ⟨V2, ⟨none, 0, 0⟩, ⟨none, 0, 0⟩, hV2, H.sx, rfl⟩
  | some cs =>
    rw [hc] at hres
    obtain ⟨rfl, ks, hks, hkw⟩ := hres
    have e : sndFile l = sndCs cs := by rw [sndFile, hc]
    rw [e]
    have hkl := hkw.len
    have hrl := hks.len
    have hcl : cs.length ≤ 1000 ∧ ∀ c ∈ cs, chkOk c := by
      unfold sndChks at hc
      split at hc
      · obtain ⟨h1, h2⟩ := chks_some _ _ _ (Nat.le_refl _) hc
        have h3 := congrArg List.length h1
        have h4 := flat_count cs
        simp only [List.length_append, List.length_drop, List.length_cons, List.length_nil] at h3
        exact ⟨by omega, h2⟩
      · cases hc
    ((repeat ((conv => whnf); first | refine an ?_ | refine H.ce ?_ | refine H.db ?_ | refine ea ?_ | refine ol ?_ | (refine H.st ?_; (conv => whnf); clear H; intro w H) | refine cT ?_ | refine cF ?_ | refine cN ?_ | refine cM ?_ | refine H.lw ?_ | refine H.ll ?_)); (conv => whnf))
    ((first | refine Rel.nwD H ?_ | refine Rel.nw H ?_); clear H; intro w b6 H)
    ((repeat ((conv => whnf); first | refine an ?_ | ((first | refine H.nwD ?_ | refine H.nw ?_); clear H; intro w _ H) | refine H.ce ?_ | refine H.db ?_ | refine ea ?_ | refine ol ?_ | (refine H.st ?_; (conv => whnf); clear H; intro w H) | refine cT ?_ | refine cF ?_ | refine cN ?_ | refine cM ?_ | refine H.lw ?_ | refine H.ll ?_)); (conv => whnf))
    replace H := H.rowNil 120 3
    refine loop_inv (S := Nat × Sl × List NtP) tabOk [0, 2, 4, 5, 6, 10, 17, 19, 20, 103, 121] (fun k => [(7, str (seenF (cs.take k.1))), (21, iv k.1)]) (fun k w' => k.1 ≤ cs.length ∧ (∀ c ∈ cs.take k.1, c.1 = 70 → c.2.length = 4) ∧ Pw NtR V2 k.2.2 (notesF 0 (cs.take k.1)) ∧ Rel W V [.row k.2.1 120 3 (k.2.2.flatMap ntC), .blk b6 (filC (fmtF (cs.take k.1)).1 (fmtF (cs.take k.1)).2.1 (fmtF (cs.take k.1)).2.2 ⟨none, 0, 0⟩ k.2.1) 67, .blk b2 (filC 0 0 0 ⟨none, 0, 0⟩ ⟨none, 0, 0⟩) 67] V2 w') (fun k _ => cs.length - k.1) (0, ⟨none, 0, 0⟩, []) ?_
    (conv => whnf)
    refine ⟨(by repeat (first | exact trivial | refine ⟨rfl, ?_⟩)), ⟨by omega, by simp, Pw.nil, H⟩, ?_⟩
    clear H
    rintro ⟨k, rn, os⟩ w ⟨hk, h4, hpw, H⟩
    dsimp only at hk h4 hpw H
    have hol := hpw.len
    have hnl := notesF_len (cs.take k) 0
    rw [List.length_take] at hnl
    have hsn : (seenF (cs.take k)).length ≤ 1000 := by
      have := List.length_filter_le isFD (cs.take k)
      rw [List.length_take] at this
      unfold seenF
      rw [List.length_map]
      omega
    by_cases hlt : k < cs.length
    · have hlt' : k < ks.length := by omega
      obtain ⟨hp, hq1, hq2⟩ := hks.at2 (g := fun x : ChkH => bv x.1) (g' := fun x : ChkH => x.2.v) (fun _ => rfl) hlt'
      have hck := hkw.all k _ _ (List.getElem?_eq_getElem hlt') (List.getElem?_eq_getElem hlt)
      have hcok := hcl.2 _ (List.getElem_mem hlt)
      have t1 := snoc_take hlt
      generalize ks[k] = x at hq1 hq2 hck
      obtain ⟨xn, xs⟩ := x
      obtain ⟨hid, hdt⟩ := hck
      dsimp only at hid hdt hq1 hq2
      obtain ⟨c, hcc⟩ : ∃ c, c = cs[k] := ⟨_, rfl⟩
      rw [← hcc] at hid hdt hcok t1
      have hxl := hdt.len
      by_cases h70 : c.1 = 70
      · have hfd : isFD c = true := (isFD_nat c).2 (.inl (by rw [h70]; rfl))
        rw [hid, h70] at hq1
        by_cases hl4 : c.2.length = 4
        rotate_left
        · have : sndCs cs = none := by
            unfold sndCs
            cases hpp : sndParts cs with
            | none => rfl
            | some y =>
              obtain ⟨f, d⟩ := y
              have hfl := filter_two hpp
              have hm : c ∈ cs.filter isFD := List.mem_filter.2 ⟨hcc ▸ List.getElem_mem hlt, hfd⟩
              rw [hfl] at hm
              simp only [List.mem_cons, List.not_mem_nil, or_false] at hm
              rcases hm with hm | hm
              · rw [hm] at hl4
                simp only
                rw [if_neg]
                exact fun h => hl4 h.1
              · rw [hm] at h70
                cases h70
          rw [this]
          ((repeat ((conv => whnf); first | refine an ?_ | ((first | refine H.nwD ?_ | refine H.nw ?_); clear H; intro w _ H) | refine H.ce ?_ | refine H.db ?_ | refine ea ?_ | refine ol ?_ | (refine H.st ?_; (conv => whnf); clear H; intro w H) | refine cT ?_ | refine cF ?_ | refine cN ?_ | refine cM ?_ | refine H.lw ?_ | refine H.ll ?_)); (conv => whnf))
          exact ⟨V2, ⟨none, 0, 0⟩, ⟨none, 0, 0⟩, hV2, H.sx, rfl⟩
        obtain ⟨p0, d0⟩ := hdt.cell8 (i := 0) (by omega)
        obtain ⟨_, d1⟩ := hdt.cell8 (i := 1) (by omega)
        obtain ⟨_, d2⟩ := hdt.cell8 (i := 2) (by omega)
        obtain ⟨_, d3⟩ := hdt.cell8 (i := 3) (by omega)
        have g0 : at8 c.2 0 < 256 := UInt8.toNat_lt _
        have g1 : at8 c.2 1 < 256 := UInt8.toNat_lt _
        have g2 : at8 c.2 2 < 256 := UInt8.toNat_lt _
        have g3 : at8 c.2 3 < 256 := UInt8.toNat_lt _
        have hor := or_hi g0 g1
        ((repeat ((conv => whnf); first | refine an ?_ | ((first | refine H.nwD ?_ | refine H.nw ?_); clear H; intro w _ H) | refine H.ce ?_ | refine H.db ?_ | refine ea ?_ | refine ol ?_ | (refine H.st ?_; (conv => whnf); clear H; intro w H) | refine cT ?_ | refine cF ?_ | refine cN ?_ | refine cM ?_ | refine H.lw ?_ | refine H.ll ?_)); (conv => whnf))
        ((first | refine draw_vc (id := 14) tabOk mixed [] [0, 1, 2, 3, 4, 5, 6, 7, 8, 9, 10, 11, 12, 13, 14, 15, 16, 17, 18, 19, 20, 21, 22, 23, 24] (by kernel_rfl) ?_ | refine draw_vc (id := 22) tabOk mixed [4] [0, 1, 2, 3, 5, 6, 7, 4, 8, 9, 10] (by kernel_rfl) ?_); intro w hdw; replace H := Rel.ext H hdw.ext)
        ((repeat ((conv => whnf); first | refine an ?_ | ((first | refine H.nwD ?_ | refine H.nw ?_); clear H; intro w _ H) | refine H.ce ?_ | refine H.db ?_ | refine ea ?_ | refine ol ?_ | (refine H.st ?_; (conv => whnf); clear H; intro w H) | refine cT ?_ | refine cF ?_ | refine cN ?_ | refine cM ?_ | refine H.lw ?_ | refine H.ll ?_)); (conv => whnf))
        rw [shl8]
        ((repeat ((conv => whnf); first | refine an ?_ | ((first | refine H.nwD ?_ | refine H.nw ?_); clear H; intro w _ H) | refine H.ce ?_ | refine H.db ?_ | refine ea ?_ | refine ol ?_ | (refine H.st ?_; (conv => whnf); clear H; intro w H) | refine cT ?_ | refine cF ?_ | refine cN ?_ | refine cM ?_ | refine H.lw ?_ | refine H.ll ?_)); (conv => whnf))
        rw [hor] at H
        refine convIT (by kernel_rfl) Try.underlying9 enc70 ?_
        (conv => whnf)
        refine And.intro (by simp only [List.length_cons, List.length_nil]; omega) ?_
        ((repeat ((conv => whnf); first | refine an ?_ | ((first | refine H.nwD ?_ | refine H.nw ?_); clear H; intro w _ H) | refine H.ce ?_ | refine H.db ?_ | refine ea ?_ | refine ol ?_ | (refine H.st ?_; (conv => whnf); clear H; intro w H) | refine cT ?_ | refine cF ?_ | refine cN ?_ | refine cM ?_ | refine H.lw ?_ | refine H.ll ?_)); (conv => whnf))
        refine ⟨(by repeat (first | exact trivial | refine ⟨rfl, ?_⟩)), (k + 1, rn, os), ?_, ⟨by dsimp only; omega, ?_, ?_, ?_⟩, by dsimp only; omega⟩
        · refine ⟨?_, rfl, trivial⟩
          rw [t1, seenF_snoc, if_pos hfd, h70]
          rfl
        · dsimp only
          rw [t1]
          intro y hy hy70
          rcases List.mem_append.1 hy with hy | hy
          · exact h4 y hy hy70
          · rw [List.mem_singleton.1 hy]; exact hl4
        · dsimp only
          rw [t1, notesF_snoc, if_pos hfd, List.append_nil]
          exact hpw
        · dsimp only
          rw [t1, fmtF_snoc]
          unfold fmtS
          rw [if_pos h70]
          exact H.sx
      by_cases h68 : c.1 = 68
      · have hfd : isFD c = true := (isFD_nat c).2 (.inr (by rw [h68]; rfl))
        rw [hid, h68] at hq1
        ((repeat ((conv => whnf); first | refine an ?_ | ((first | refine H.nwD ?_ | refine H.nw ?_); clear H; intro w _ H) | refine H.ce ?_ | refine H.db ?_ | refine ea ?_ | refine ol ?_ | (refine H.st ?_; (conv => whnf); clear H; intro w H) | refine cT ?_ | refine cF ?_ | refine cN ?_ | refine cM ?_ | refine H.lw ?_ | refine H.ll ?_)); (conv => whnf))
        refine convIT (by kernel_rfl) Try.underlying9 enc68 ?_
        (conv => whnf)
        refine And.intro (by simp only [List.length_cons, List.length_nil]; omega) ?_
        ((repeat ((conv => whnf); first | refine an ?_ | ((first | refine H.nwD ?_ | refine H.nw ?_); clear H; intro w _ H) | refine H.ce ?_ | refine H.db ?_ | refine ea ?_ | refine ol ?_ | (refine H.st ?_; (conv => whnf); clear H; intro w H) | refine cT ?_ | refine cF ?_ | refine cN ?_ | refine cM ?_ | refine H.lw ?_ | refine H.ll ?_)); (conv => whnf))
        refine ⟨(by repeat (first | exact trivial | refine ⟨rfl, ?_⟩)), (k + 1, rn, os), ?_, ⟨by dsimp only; omega, ?_, ?_, ?_⟩, by dsimp only; omega⟩
        · refine ⟨?_, rfl, trivial⟩
          rw [t1, seenF_snoc, if_pos hfd, h68]
          rfl
        · dsimp only
          rw [t1]
          intro y hy hy70
          rcases List.mem_append.1 hy with hy | hy
          · exact h4 y hy hy70
          · rw [List.mem_singleton.1 hy] at hy70; exact absurd hy70 h70
        · dsimp only
          rw [t1, notesF_snoc, if_pos hfd, List.append_nil]
          exact hpw
        · dsimp only
          rw [t1, fmtF_snoc]
          unfold fmtS
          rw [if_neg h70]
          exact H.sx
      have n70 : xn.toNat ≠ 70 := fun h => h70 (by rw [← hid]; exact UInt8.toNat_inj.1 (by rw [h]; rfl))
      have n68 : xn.toNat ≠ 68 := fun h => h68 (by rw [← hid]; exact UInt8.toNat_inj.1 (by rw [h]; rfl))
      have hfd : ¬ isFD c = true := fun h => by
        have := (isFD_nat c).1 h
        rw [← hid] at this
        omega
      ((repeat ((conv => whnf); first | refine an ?_ | ((first | refine H.nwD ?_ | refine H.nw ?_); clear H; intro w _ H) | refine H.ce ?_ | refine H.db ?_ | refine ea ?_ | refine ol ?_ | (refine H.st ?_; (conv => whnf); clear H; intro w H) | refine cT ?_ | refine cF ?_ | refine cN ?_ | refine cM ?_ | refine H.lw ?_ | refine H.ll ?_)); (conv => whnf))
      refine Rel.app1_1 (f := ntC) (l := os) (x := (((k : Int), (xn, c.2)), xs)) tabOk rfl rfl rfl rfl rfl (by decide) (fun _ => rfl) (List.all_eq_true.1 rfl) H (by simp; omega) (by omega) ?_
      clear H
      intro rn w H
      ((repeat ((conv => whnf); first | refine an ?_ | ((first | refine H.nwD ?_ | refine H.nw ?_); clear H; intro w _ H) | refine H.ce ?_ | refine H.db ?_ | refine ea ?_ | refine ol ?_ | (refine H.st ?_; (conv => whnf); clear H; intro w H) | refine cT ?_ | refine cF ?_ | refine cN ?_ | refine cM ?_ | refine H.lw ?_ | refine H.ll ?_)); (conv => whnf))
      refine ⟨(by repeat (first | exact trivial | refine ⟨rfl, ?_⟩)), (k + 1, rn, os ++ [(((k : Int), (xn, c.2)), xs)]), ?_, ⟨by dsimp only; omega, ?_, ?_, ?_⟩, by dsimp only; omega⟩
      · refine ⟨?_, rfl, trivial⟩
        rw [t1, seenF_snoc, if_neg hfd, List.append_nil]
        rfl
      · dsimp only
        rw [t1]
        intro y hy hy70
        rcases List.mem_append.1 hy with hy | hy
        · exact h4 y hy hy70
        · rw [List.mem_singleton.1 hy] at hy70; exact absurd hy70 h70
      · dsimp only
        rw [t1, notesF_snoc, if_neg hfd]
        refine hpw.snoc ⟨?_, hdt⟩
        rw [List.length_take, Nat.min_eq_left hk, Nat.zero_add, hid]
      · dsimp only
        rw [t1, fmtF_snoc]
        unfold fmtS
        rw [if_neg h70]
        exact H.sx
    · rw [List.take_of_length_le (by omega)] at h4 hpw H
      rw [List.take_of_length_le (by omega)]
      ((repeat ((conv => whnf); first | refine an ?_ | refine H.ce ?_ | refine H.db ?_ | refine ea ?_ | refine ol ?_ | (refine H.st ?_; (conv => whnf); clear H; intro w H) | refine cT ?_ | refine cF ?_ | refine cN ?_ | refine cM ?_ | refine H.lw ?_ | refine H.ll ?_)); (conv => whnf))
      ((first | refine Rel.nwD H ?_ | refine Rel.nw H ?_); clear H; intro w b83 H)
      ((repeat ((conv => whnf); first | refine an ?_ | ((first | refine H.nwD ?_ | refine H.nw ?_); clear H; intro w _ H) | refine H.ce ?_ | refine H.db ?_ | refine ea ?_ | refine ol ?_ | (refine H.st ?_; (conv => whnf); clear H; intro w H) | refine cT ?_ | refine cF ?_ | refine cN ?_ | refine cM ?_ | refine H.lw ?_ | refine H.ll ?_)); (conv => whnf))
      refine Rel.convRS (zs := [70, 68]) Try.underlying121 Try.underlying21 Try.underlying9 H rfl ?_
      rw [enc2]
      replace H := H.drop1
      ((repeat ((conv => whnf); first | refine an ?_ | ((first | refine H.nwD ?_ | refine H.nw ?_); clear H; intro w _ H) | refine H.ce ?_ | refine H.db ?_ | refine ea ?_ | refine ol ?_ | (refine H.st ?_; (conv => whnf); clear H; intro w H) | refine cT ?_ | refine cF ?_ | refine cN ?_ | refine cM ?_ | refine H.lw ?_ | refine H.ll ?_)); (conv => whnf))
      refine condG_ndec (fun hse => ?_) (fun hse => ?_)
      · have : sndCs cs = none := by rw [sndCs, parts_none hse]
        rw [this]
        ((repeat ((conv => whnf); first | refine an ?_ | ((first | refine H.nwD ?_ | refine H.nw ?_); clear H; intro w _ H) | refine H.ce ?_ | refine H.db ?_ | refine ea ?_ | refine ol ?_ | (refine H.st ?_; (conv => whnf); clear H; intro w H) | refine cT ?_ | refine cF ?_ | refine cN ?_ | refine cM ?_ | refine H.lw ?_ | refine H.ll ?_)); (conv => whnf))
        exact ⟨V2, ⟨none, 0, 0⟩, ⟨none, 0, 0⟩, hV2, H.sx, rfl⟩
      obtain ⟨f, d, hfl⟩ := seen_two hse
      have hpp := parts_two hfl
      have hcs : sndCs cs = if fOk f d then some (sndOf f d (notesF 0 cs)) else none := by rw [sndCs, hpp]
      have hfm : fmtF cs = (256 * at8 f 0 + at8 f 1, at8 f 2, at8 f 3) := by
        rw [fmtF_filter, hfl]
        rfl
      have hf4 : f.length = 4 := h4 (70, f) (List.mem_filter.1 (by rw [hfl]; simp : ((70, f) : Chk) ∈ cs.filter isFD)).1 rfl
      have hdl := data_le (c := (68, d)) (by rw [hfl]; simp)
      have hbl : (cs.flatMap putChk).length ≤ 1000 := by
        unfold sndChks at hc
        split at hc
        · obtain ⟨h1, h2⟩ := chks_some _ _ _ (Nat.le_refl _) hc
          have h3 := congrArg List.length h1
          simp only [List.length_append, List.length_drop, List.length_cons, List.length_nil] at h3
          omega
        · cases hc
      rw [hfm] at H
      dsimp only at H
      have g0 : at8 f 0 < 256 := UInt8.toNat_lt _
      have g1 : at8 f 1 < 256 := UInt8.toNat_lt _
      have g2 : at8 f 2 < 256 := UInt8.toNat_lt _
      have g3 : at8 f 3 < 256 := UInt8.toNat_lt _
      by_cases q1 : at8 f 2 < 1
      · rw [hcs, if_neg (fun h => by have := h.2.1; omega)]
        ((repeat ((conv => whnf); first | refine an ?_ | ((first | refine H.nwD ?_ | refine H.nw ?_); clear H; intro w _ H) | refine H.ce ?_ | refine H.db ?_ | refine ea ?_ | refine ol ?_ | (refine H.st ?_; (conv => whnf); clear H; intro w H) | refine cT ?_ | refine cF ?_ | refine cN ?_ | refine cM ?_ | refine H.lw ?_ | refine H.ll ?_)); (conv => whnf))
        exact ⟨V2, ⟨none, 0, 0⟩, ⟨none, 0, 0⟩, hV2, H.sx, rfl⟩
      by_cases q2 : 2 < at8 f 2
      · rw [hcs, if_neg (fun h => by have := h.2.1; omega)]
        ((repeat ((conv => whnf); first | refine an ?_ | ((first | refine H.nwD ?_ | refine H.nw ?_); clear H; intro w _ H) | refine H.ce ?_ | refine H.db ?_ | refine ea ?_ | refine ol ?_ | (refine H.st ?_; (conv => whnf); clear H; intro w H) | refine cT ?_ | refine cF ?_ | refine cN ?_ | refine cM ?_ | refine H.lw ?_ | refine H.ll ?_)); (conv => whnf))
        exact ⟨V2, ⟨none, 0, 0⟩, ⟨none, 0, 0⟩, hV2, H.sx, rfl⟩
      by_cases q3 : 4 ≤ at8 f 3
      · rw [hcs, if_neg (fun h => by have := h.2.2.1; omega)]
        ((repeat ((conv => whnf); first | refine an ?_ | ((first | refine H.nwD ?_ | refine H.nw ?_); clear H; intro w _ H) | refine H.ce ?_ | refine H.db ?_ | refine ea ?_ | refine ol ?_ | (refine H.st ?_; (conv => whnf); clear H; intro w H) | refine cT ?_ | refine cF ?_ | refine cN ?_ | refine cM ?_ | refine H.lw ?_ | refine H.ll ?_)); (conv => whnf))
        exact ⟨V2, ⟨none, 0, 0⟩, ⟨none, 0, 0⟩, hV2, H.sx, rfl⟩
      obtain ⟨i, hi, hci, hbe⟩ := data_at hfl
      have hi' : i < ks.length := by omega
      have hki := hkw.all i _ _ (List.getElem?_eq_getElem hi') (List.getElem?_eq_getElem hi)
      obtain ⟨hp, hq1, hq2⟩ := hks.at2 (g := fun x : ChkH => bv x.1) (g' := fun x : ChkH => x.2.v) (fun _ => rfl) hi'
      have hdt := hki.data
      rw [hci] at hdt
      dsimp only at hdt hdl
      ((repeat ((conv => whnf); first | refine an ?_ | ((first | refine H.nwD ?_ | refine H.nw ?_); clear H; intro w _ H) | refine H.ce ?_ | refine H.db ?_ | refine ea ?_ | refine ol ?_ | (refine H.st ?_; (conv => whnf); clear H; intro w H) | refine cT ?_ | refine cF ?_ | refine cN ?_ | refine cM ?_ | refine H.lw ?_ | refine H.ll ?_)); (conv => whnf))
      refine (dataAt_spec H.data hks (by omega) hi' (by rw [hki.id, hci]) (fun k hk hk2 => by
        rw [(hkw.all k _ _ (List.getElem?_eq_getElem hk2) (List.getElem?_eq_getElem (by omega))).id]
        exact hbe k hk (by omega))).use ?_
      rintro v w ⟨rfl, K⟩
      (have hKb := K.base; replace H := H.call0 K)
      have hdl2 := hdt.len
      ((repeat ((conv => whnf); first | refine an ?_ | ((first | refine H.nwD ?_ | refine H.nw ?_); clear H; intro w _ H) | refine H.ce ?_ | refine H.db ?_ | refine ea ?_ | refine ol ?_ | (refine H.st ?_; (conv => whnf); clear H; intro w H) | refine cT ?_ | refine cF ?_ | refine cN ?_ | refine cM ?_ | refine H.lw ?_ | refine H.ll ?_)); (conv => whnf))
      ((first | refine draw_vc (id := 14) tabOk mixed [] [0, 1, 2, 3, 4, 5, 6, 7, 8, 9, 10, 11, 12, 13, 14, 15, 16, 17, 18, 19, 20, 21, 22, 23, 24] (by kernel_rfl) ?_ | refine draw_vc (id := 22) tabOk mixed [4] [0, 1, 2, 3, 5, 6, 7, 4, 8, 9, 10] (by kernel_rfl) ?_); intro w hdw; replace H := Rel.ext H hdw.ext)
      ((repeat ((conv => whnf); first | refine an ?_ | ((first | refine H.nwD ?_ | refine H.nw ?_); clear H; intro w _ H) | refine H.ce ?_ | refine H.db ?_ | refine ea ?_ | refine ol ?_ | (refine H.st ?_; (conv => whnf); clear H; intro w H) | refine cT ?_ | refine cF ?_ | refine cN ?_ | refine cM ?_ | refine H.lw ?_ | refine H.ll ?_)); (conv => whnf))
      refine (unitSize_spec H.data (256 * at8 f 0 + at8 f 1) (at8 f 2) (at8 f 3)).use ?_
      rintro v w ⟨rfl, K⟩
      (have hKb := K.base; replace H := H.call0 K)
      ((repeat ((conv => whnf); first | refine an ?_ | ((first | refine H.nwD ?_ | refine H.nw ?_); clear H; intro w _ H) | refine H.ce ?_ | refine H.db ?_ | refine ea ?_ | refine ol ?_ | (refine H.st ?_; (conv => whnf); clear H; intro w H) | refine cT ?_ | refine cF ?_ | refine cN ?_ | refine cM ?_ | refine H.lw ?_ | refine H.ll ?_)); (conv => whnf))
      obtain ⟨M, hM⟩ : ∃ M, M = (at8 f 3 % 2 + 1) * at8 f 2 := ⟨_, rfl⟩
      have hM1 : 1 ≤ M ∧ M ≤ 4 := by
        rcases (by omega : at8 f 2 = 1 ∨ at8 f 2 = 2) with h | h <;> rw [h] at hM <;> omega
      rw [← Int.natCast_mul, ← hM]
      have hmod : ((ks[i].2.len : Nat) : Int) % (M : Int) = ((d.length % M : Nat) : Int) := by rw [hdl2]; exact (Int.natCast_emod _ _).symm
      by_cases hm : d.length % M = 0
      rotate_left
      · rw [hcs, if_neg (fun h => hm (by rw [hM]; exact h.2.2.2))]
        ((repeat ((conv => whnf); first | refine an ?_ | ((first | refine H.nwD ?_ | refine H.nw ?_); clear H; intro w _ H) | refine H.ce ?_ | refine H.db ?_ | refine ea ?_ | refine ol ?_ | (refine H.st ?_; (conv => whnf); clear H; intro w H) | refine cT ?_ | refine cF ?_ | refine cN ?_ | refine cM ?_ | refine H.lw ?_ | refine H.ll ?_)); (conv => whnf))
        exact ⟨V2, ⟨none, 0, 0⟩, ⟨none, 0, 0⟩, hV2, H.sx, rfl⟩
      have hok : fOk f d := ⟨hf4, by omega, by omega, by rw [← hM]; exact hm⟩
      rw [hcs, if_pos hok]
      ((repeat ((conv => whnf); first | refine an ?_ | ((first | refine H.nwD ?_ | refine H.nw ?_); clear H; intro w _ H) | refine H.ce ?_ | refine H.db ?_ | refine ea ?_ | refine ol ?_ | (refine H.st ?_; (conv => whnf); clear H; intro w H) | refine cT ?_ | refine cF ?_ | refine cN ?_ | refine cM ?_ | refine H.lw ?_ | refine H.ll ?_)); (conv => whnf))
      refine (decode_spec (rate := 256 * at8 f 0 + at8 f 1) (ch := at8 f 2) (coding := at8 f 3) H.data (by omega) (by omega) hdt (by omega) (fun hw => even_of (by rw [← hM]; exact hm) (by simpa [isWide] using hw))).use ?_
      rintro v w ⟨rs, rfl, K⟩
      (have hKb := K.base; replace H := Rel.call H K)
      simp only [List.cons_append, List.nil_append] at H
      ((repeat ((conv => whnf); first | refine an ?_ | ((first | refine H.nwD ?_ | refine H.nw ?_); clear H; intro w _ H) | refine H.ce ?_ | refine H.db ?_ | refine ea ?_ | refine ol ?_ | (refine H.st ?_; (conv => whnf); clear H; intro w H) | refine cT ?_ | refine cF ?_ | refine cN ?_ | refine cM ?_ | refine H.lw ?_ | refine H.ll ?_)); (conv => whnf))
      obtain ⟨V3, hV3, H, hrs⟩ := Rel.freezeF H (fun _ => rfl) (by decide)
      obtain ⟨V4, hV4, H, hrn⟩ := Rel.freezeF H (fun _ => rfl) (by decide)
      exact ⟨V4, rs, rn, (hV2.trans hV3).trans hV4, H.sx, rfl, hrs.up hV4, os, hrn, hpw.up (fun _ _ _ _ hs h => ⟨h.1, h.2.up hs⟩) (hV3.trans hV4)⟩
end
end Go.Proofs.Ytjfcpnlacodjjaa
