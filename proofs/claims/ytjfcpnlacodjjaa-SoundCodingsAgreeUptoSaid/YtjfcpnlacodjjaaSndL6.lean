/-
  Sound files: both codings agree.
-/
import Derived.Test.YtjfcpnlacodjjaaSndX
import Derived.Test.YtjfcpnlacodjjaaVcW
namespace Go.Proofs.Ytjfcpnlacodjjaa
open Go Go.RowKit

theorem sndRes_few {c : Nat} (h : c < 4) : (sndRes c []).length ≤ 1099511627776 := by
  unfold sndRes
  split
  · simp
  · have a1 := putN_len (n := (c : Int)) (by omega) (by omega)
    have a2 := putN_len (n := 0) (by omega) (by omega)
    simp only [putL, List.length_append, List.length_nil, List.flatMap_nil, List.append_nil] at a2 ⊢
    have : (putN ((0 : Nat) : Int)).length = (putN 0).length := rfl
    omega
section
variable {V W : World}
theorem soundOnly_ref (hV : Sub V W) {coding : Nat} (hc : coding < 4) : Ret Try.prog 36 [iv coding].toArray W fun q w' => ∃ (V' : World) (r : Sl), Sub V V' ∧ Rel W V [] V' w' ∧ q = r.v ∧ Byt V' r (sndRes coding []) := by
  have H := Rel.start hV
  refine cal_of_vc tabOk Try.func36 rfl (by kernel_rfl) 9 rfl (by simp) [0, 2, 4] ?_
  by_cases h1 : coding = 1
  · subst h1
    ((repeat ((conv => whnf); first | refine an ?_ | ((first | refine H.nwD ?_ | refine H.nw ?_); clear H; intro w _ H) | refine H.ce ?_ | refine H.db ?_ | refine ea ?_ | refine ol ?_ | (refine H.st ?_; (conv => whnf); clear H; intro w H) | refine cT ?_ | refine cF ?_ | refine cN ?_ | refine cM ?_ | refine H.lw ?_ | refine H.ll ?_)); (conv => whnf))
    exact ⟨V, ⟨none, 0, 0⟩, Sub.refl _, H.sx, rfl, SlF.nil _ _⟩
  have e : sndRes coding [] = putN coding ++ putN 0 := by
    unfold sndRes
    rw [if_neg (fun h => h1 h.1)]
    simp [putL]
  have a1 := putN_len (n := (coding : Int)) (by omega) (by omega)
  have a2 := putN_len (n := 0) (by omega) (by omega)
  rw [e]
  ((repeat ((conv => whnf); first | refine an ?_ | ((first | refine H.nwD ?_ | refine H.nw ?_); clear H; intro w _ H) | refine H.ce ?_ | refine H.db ?_ | refine ea ?_ | refine ol ?_ | (refine H.st ?_; (conv => whnf); clear H; intro w H) | refine cT ?_ | refine cF ?_ | refine cN ?_ | refine cM ?_ | refine H.lw ?_ | refine H.ll ?_)); (conv => whnf))
  refine (put_ref (n := (coding : Int)) H.data (by constructor <;> omega)).use ?_
  rintro q w ⟨r1, rfl, K⟩
  (have hKb := K.base; replace H := Rel.call H K)
  simp only [List.append_nil] at H
  obtain ⟨V2, hV2, H, hr1⟩ := Rel.freezeF H (fun _ => rfl) (by decide)
  ((repeat ((conv => whnf); first | refine an ?_ | ((first | refine H.nwD ?_ | refine H.nw ?_); clear H; intro w _ H) | refine H.ce ?_ | refine H.db ?_ | refine ea ?_ | refine ol ?_ | (refine H.st ?_; (conv => whnf); clear H; intro w H) | refine cT ?_ | refine cF ?_ | refine cN ?_ | refine cM ?_ | refine H.lw ?_ | refine H.ll ?_)); (conv => whnf))
  refine (put_ref (n := 0) H.data (by constructor <;> omega)).use ?_
  rintro q w ⟨r2, rfl, K⟩
  (have hKb := K.base; replace H := Rel.call H K)
  simp only [List.append_nil] at H
  obtain ⟨V3, hV3, H, hr2⟩ := Rel.freezeF H (fun _ => rfl) (by decide)
  ((repeat ((conv => whnf); first | refine an ?_ | ((first | refine H.nwD ?_ | refine H.nw ?_); clear H; intro w _ H) | refine H.ce ?_ | refine H.db ?_ | refine ea ?_ | refine ol ?_ | (refine H.st ?_; (conv => whnf); clear H; intro w H) | refine cT ?_ | refine cF ?_ | refine cN ?_ | refine cM ?_ | refine H.lw ?_ | refine H.ll ?_)); (conv => whnf))
  refine (join_ref H.data (hr1.up hV3) hr2 (by omega)).use ?_
  rintro q w ⟨r3, rfl, K⟩
  (have hKb := K.base; replace H := Rel.call H K)
  simp only [List.append_nil] at H
  obtain ⟨V4, hV4, H, hr3⟩ := Rel.freezeF H (fun _ => rfl) (by decide)
  ((repeat ((conv => whnf); first | refine an ?_ | ((first | refine H.nwD ?_ | refine H.nw ?_); clear H; intro w _ H) | refine H.ce ?_ | refine H.db ?_ | refine ea ?_ | refine ol ?_ | (refine H.st ?_; (conv => whnf); clear H; intro w H) | refine cT ?_ | refine cF ?_ | refine cN ?_ | refine cM ?_ | refine H.lw ?_ | refine H.ll ?_)); (conv => whnf))
  exact ⟨V4, r3, (hV2.trans hV3).trans hV4, H.sx, rfl, hr3⟩
end
/-- samples that a coding can hold, few of them: written and read again -/
theorem codings_make {rate ch c : Nat} {smp : List Int} (h1 : rate ≤ 65535) (h2 : 1 ≤ ch ∧ ch ≤ 2) (h3 : c < 4) (hf : ∀ x ∈ smp, fits (isWide c) x) (hl : smp.length ≤ 300) (hd : smp.length % ch = 0) :
    sndMake (sndVal rate ch (sndPcm smp)) (sndRes c []) = some (sndWrite rate ch c smp []) ∧ sndTo (sndWrite rate ch c smp []) = some (sndVal rate ch (sndPcm smp), sndRes c []) ∧ (sndWrite rate ch c smp []).length ≤ 1000 := by
  have hpl := sndPcm_len smp
  have hbl := sndBytes_len smp c ch
  have hdiv : (sndBytes smp c ch).length % ((c % 2 + 1) * ch) = 0 := by
    rw [hbl]
    obtain ⟨k, hk⟩ := Nat.dvd_of_mod_eq_zero hd
    rw [hk, show ch * k * (c % 2 + 1) = (c % 2 + 1) * ch * k by rw [Nat.mul_comm (ch * k), ← Nat.mul_assoc]]
    exact Nat.mul_mod_right ..
  have hpd : (sndPcm smp).length % (2 * ch) = 0 := by
    rw [hpl]
    obtain ⟨k, hk⟩ := Nat.dvd_of_mod_eq_zero hd
    rw [hk, ← Nat.mul_assoc]
    exact Nat.mul_mod_right ..
  have hb600 : (sndBytes smp c ch).length ≤ 600 := by
    rw [hbl]
    have := Nat.mul_le_mul hl (show c % 2 + 1 ≤ 2 by omega)
    omega
  have hw : weave (([] : List Note).length + 2) 0 [] (sndOwn rate ch c smp) = sndOwn rate ch c smp := rfl
  have hfile := sndWrite_file (ns := []) (l := smp) h1 h2 h3 rfl (fun x hx => by
    rw [hw] at hx
    simp only [sndOwn, List.mem_cons, List.not_mem_nil, or_false] at hx
    rcases hx with rfl | rfl
    · show 4 ≤ 65535; decide
    · show (sndBytes smp c ch).length ≤ 65535; omega) hdiv
  rw [sndVals_bytes h2.1 hf] at hfile
  have hv := vfault_snd (rate := (rate : Int)) (ch := (ch : Int)) (b := sndPcm smp) (by constructor <;> omega) (by constructor <;> omega) (by omega)
  have hto : sndTo (sndWrite rate ch c smp []) = some (sndVal rate ch (sndPcm smp), sndRes c []) := by
    unfold sndTo
    rw [hfile]
    simp only
    unfold sndAns
    rw [if_neg (by rw [hv]; decide)]
  have hlen : (sndWrite rate ch c smp []).length ≤ 1000 := by
    unfold sndWrite
    rw [hw]
    simp only [sndOwn, List.flatMap_cons, List.flatMap_nil, List.length_append, putChk_len, List.length_cons, List.length_nil, frmB]
    omega
  refine ⟨?_, hto, hlen⟩
  have hvals : sndVals (sndPcm smp) 1 ch = smp := sndVals_pcm h2.1 fun x hx => ⟨(hf x hx).1, (hf x hx).2.1⟩
  unfold sndMake
  rw [sndShape_val h1 h2 hpd, sndRd_res h3 (by decide) rfl (by simp)]
  simp only
  rw [hvals, if_pos ⟨hlen, hto⟩]
set_option maxRecDepth 100000 in
set_option maxHeartbeats 4000000 in
theorem law_sound_codings {W : World} (rate : Int) (_hr : I64 rate) (ch : Int) (_hc : I64 ch) {s : Sl} {l : List Int} (hs : SlF itC W s l) (hli : ∀ x ∈ l, I64 x) (hl : l.length ≤ 1048576) (wide : Bool) :
    Ret Try.prog 10 [iv rate, iv ch, s.v, .bool wide].toArray W fun v w' => v = .bool true ∧ Ext W w' := by
  have H := Rel.start (Sub.refl W)
  have hlen := hs.len
  refine cal_of_vc tabOk Try.func10 rfl (by kernel_rfl) 132 rfl (by simp) [0, 1, 2, 3, 8, 9, 10, 11, 12, 13, 14, 15, 16, 17, 19, 20, 22, 24, 37, 46, 54, 55, 76] ?_
  ((repeat ((conv => whnf); first | refine an ?_ | ((first | refine H.nwD ?_ | refine H.nw ?_); clear H; intro w _ H) | refine H.ce ?_ | refine H.db ?_ | refine ea ?_ | refine ol ?_ | (refine H.st ?_; (conv => whnf); clear H; intro w H) | refine cT ?_ | refine cF ?_ | refine cN ?_ | refine cM ?_ | refine H.lw ?_ | refine H.ll ?_)); (conv => whnf))
  refine (example_sound H.data).use ?_
  rintro q w ⟨rfl, V1, hV1, K⟩
  (have hKb := K.base; replace H := H.call0 K)
  ((repeat ((conv => whnf); first | refine an ?_ | ((first | refine H.nwD ?_ | refine H.nw ?_); clear H; intro w _ H) | refine H.ce ?_ | refine H.db ?_ | refine ea ?_ | refine ol ?_ | (refine H.st ?_; (conv => whnf); clear H; intro w H) | refine cT ?_ | refine cF ?_ | refine cN ?_ | refine cM ?_ | refine H.lw ?_ | refine H.ll ?_)); (conv => whnf))
  refine (in_ref rate 0 65535 w).use ?_
  rintro q w' ⟨rfl, rfl⟩
  by_cases q1 : 0 ≤ rate ∧ rate ≤ 65535
  rotate_left
  · rw [decide_eq_false q1]
    ((repeat ((conv => whnf); first | refine an ?_ | ((first | refine H.nwD ?_ | refine H.nw ?_); clear H; intro w _ H) | refine H.ce ?_ | refine H.db ?_ | refine ea ?_ | refine ol ?_ | (refine H.st ?_; (conv => whnf); clear H; intro w H) | refine cT ?_ | refine cF ?_ | refine cN ?_ | refine cM ?_ | refine H.lw ?_ | refine H.ll ?_)); (conv => whnf))
    (first | exact H.base | exact ⟨by simp, H.base⟩ | exact ⟨rfl, H.base⟩)
  rw [decide_eq_true q1]
  ((repeat ((conv => whnf); first | refine an ?_ | ((first | refine H.nwD ?_ | refine H.nw ?_); clear H; intro w _ H) | refine H.ce ?_ | refine H.db ?_ | refine ea ?_ | refine ol ?_ | (refine H.st ?_; (conv => whnf); clear H; intro w H) | refine cT ?_ | refine cF ?_ | refine cN ?_ | refine cM ?_ | refine H.lw ?_ | refine H.ll ?_)); (conv => whnf))
  refine (in_ref ch 1 2 w).use ?_
  rintro q w' ⟨rfl, rfl⟩
  by_cases q2 : 1 ≤ ch ∧ ch ≤ 2
  rotate_left
  · rw [decide_eq_false q2]
    ((repeat ((conv => whnf); first | refine an ?_ | ((first | refine H.nwD ?_ | refine H.nw ?_); clear H; intro w _ H) | refine H.ce ?_ | refine H.db ?_ | refine ea ?_ | refine ol ?_ | (refine H.st ?_; (conv => whnf); clear H; intro w H) | refine cT ?_ | refine cF ?_ | refine cN ?_ | refine cM ?_ | refine H.lw ?_ | refine H.ll ?_)); (conv => whnf))
    (first | exact H.base | exact ⟨by simp, H.base⟩ | exact ⟨rfl, H.base⟩)
  rw [decide_eq_true q2]
  by_cases q3 : 300 < l.length
  · ((repeat ((conv => whnf); first | refine an ?_ | ((first | refine H.nwD ?_ | refine H.nw ?_); clear H; intro w _ H) | refine H.ce ?_ | refine H.db ?_ | refine ea ?_ | refine ol ?_ | (refine H.st ?_; (conv => whnf); clear H; intro w H) | refine cT ?_ | refine cF ?_ | refine cN ?_ | refine cM ?_ | refine H.lw ?_ | refine H.ll ?_)); (conv => whnf))
    (first | exact H.base | exact ⟨by simp, H.base⟩ | exact ⟨rfl, H.base⟩)
  obtain ⟨R, rfl⟩ : ∃ R : Nat, rate = R := ⟨rate.toNat, by omega⟩
  obtain ⟨C, rfl⟩ : ∃ C : Nat, ch = C := ⟨ch.toNat, by omega⟩
  obtain ⟨n, hn⟩ : ∃ n, n = l.length - l.length % C := ⟨_, rfl⟩
  have hmle : l.length % C ≤ l.length := Nat.mod_le _ _
  have hnl : n ≤ l.length := by omega
  have hnd : n % C = 0 := by
    rw [hn]
    exact Nat.sub_mod_eq_zero_of_mod_eq (by simp)
  have hmi : ((s.len : Nat) : Int) % (C : Int) = ((l.length % C : Nat) : Int) := by rw [hlen]; exact (Int.natCast_emod _ _).symm
  ((repeat ((conv => whnf); first | refine an ?_ | ((first | refine H.nwD ?_ | refine H.nw ?_); clear H; intro w _ H) | refine H.ce ?_ | refine H.db ?_ | refine ea ?_ | refine ol ?_ | (refine H.st ?_; (conv => whnf); clear H; intro w H) | refine cT ?_ | refine cF ?_ | refine cN ?_ | refine cM ?_ | refine H.lw ?_ | refine H.ll ?_)); (conv => whnf))
  replace H := H.rowNil 3 1
  cases wide with
  | true =>
    refine loop_inv (S := Nat × Sl) tabOk [0, 1, 2, 3, 11, 12, 13, 14, 15, 16, 17, 19, 20, 22, 24, 37, 76] (fun k => [(9, k.2.v), (10, iv k.1)]) (fun k w' => k.1 ≤ n ∧ (∀ x ∈ l.take k.1, -128 ≤ x ∧ x ≤ 127) ∧ Rel W W [.row k.2 3 1 (((l.take k.1).map (· * 255)).flatMap itC)] V1 w') (fun k _ => n - k.1) (0, ⟨none, 0, 0⟩) ?_
    (conv => whnf)
    refine ⟨(by repeat (first | exact trivial | refine ⟨rfl, ?_⟩)), ⟨by omega, by simp, H⟩, ?_⟩
    clear H
    rintro ⟨k, r⟩ w ⟨hk, hrg, H⟩
    dsimp only at hk hrg H ⊢
    by_cases hlt : k < n
    · obtain ⟨p0, d0⟩ := (hs.up hV1).at1 (g := iv) (fun _ => rfl) (show k < l.length by omega)
      have t1 := snoc_take (show k < l.length by omega)
      generalize l[k] = y at d0 t1
      ((repeat ((conv => whnf); first | refine an ?_ | ((first | refine H.nwD ?_ | refine H.nw ?_); clear H; intro w _ H) | refine H.ce ?_ | refine H.db ?_ | refine ea ?_ | refine ol ?_ | (refine H.st ?_; (conv => whnf); clear H; intro w H) | refine cT ?_ | refine cF ?_ | refine cN ?_ | refine cM ?_ | refine H.lw ?_ | refine H.ll ?_)); (conv => whnf))
      refine (in_ref y (-128) 127 w).use ?_
      rintro q w' ⟨rfl, rfl⟩
      by_cases hy : -128 ≤ y ∧ y ≤ 127
      rotate_left
      · rw [decide_eq_false hy]
        ((repeat ((conv => whnf); first | refine an ?_ | ((first | refine H.nwD ?_ | refine H.nw ?_); clear H; intro w _ H) | refine H.ce ?_ | refine H.db ?_ | refine ea ?_ | refine ol ?_ | (refine H.st ?_; (conv => whnf); clear H; intro w H) | refine cT ?_ | refine cF ?_ | refine cN ?_ | refine cM ?_ | refine H.lw ?_ | refine H.ll ?_)); (conv => whnf))
        (first | exact H.base | exact ⟨by simp, H.base⟩ | exact ⟨rfl, H.base⟩)
      rw [decide_eq_true hy]
      ((repeat ((conv => whnf); first | refine an ?_ | ((first | refine H.nwD ?_ | refine H.nw ?_); clear H; intro w _ H) | refine H.ce ?_ | refine H.db ?_ | refine ea ?_ | refine ol ?_ | (refine H.st ?_; (conv => whnf); clear H; intro w H) | refine cT ?_ | refine cF ?_ | refine cN ?_ | refine cM ?_ | refine H.lw ?_ | refine H.ll ?_)); (conv => whnf))
      refine Rel.app1_0 (f := itC) (s := r) (l := (l.take k).map (· * 255)) (x := y * 255) tabOk rfl rfl rfl rfl rfl (by decide) (fun _ => rfl) (List.all_eq_true.1 rfl) (H.blkEq (congrArg (fun z => [Value.int .i64 z]) (Int.mul_comm _ _))) (by rw [List.length_map, List.length_take]; simp; omega) (by rw [List.length_map, List.length_take]; omega) ?_
      clear H
      intro r2 w H
      ((repeat ((conv => whnf); first | refine an ?_ | ((first | refine H.nwD ?_ | refine H.nw ?_); clear H; intro w _ H) | refine H.ce ?_ | refine H.db ?_ | refine ea ?_ | refine ol ?_ | (refine H.st ?_; (conv => whnf); clear H; intro w H) | refine cT ?_ | refine cF ?_ | refine cN ?_ | refine cM ?_ | refine H.lw ?_ | refine H.ll ?_)); (conv => whnf))
      refine ⟨(by repeat (first | exact trivial | refine ⟨rfl, ?_⟩)), (k + 1, r2), (by repeat (first | exact trivial | refine ⟨rfl, ?_⟩)), ⟨by dsimp only; omega, ?_, ?_⟩, by dsimp only; omega⟩
      · dsimp only
        rw [t1]
        intro x hx
        rcases List.mem_append.1 hx with hx | hx
        · exact hrg x hx
        · rw [List.mem_singleton.1 hx]; exact hy
      · dsimp only
        rw [t1, List.map_append]
        exact H.sx
    have hkn : k = n := by omega
    subst hkn
    obtain ⟨smp, hsmp⟩ : ∃ smp, smp = (l.take k).map (· * 255) := ⟨_, rfl⟩
    rw [← hsmp] at H
    have hsl : smp.length = k := by rw [hsmp, List.length_map, List.length_take]; omega
    have hsd : smp.length % C = 0 := by rw [hsl]; exact hnd
    have hfit : ∀ c, (c = 1 ∨ c = 1 + 2) → ∀ x ∈ smp, fits (isWide c) x := by
      intro c hc x hx
      rw [hsmp] at hx
      obtain ⟨y, hy, rfl⟩ := List.mem_map.1 hx
      have := hrg y hy
      rcases hc with rfl | rfl
      · exact ⟨by omega, by omega, fun h => by first | (cases h; done) | omega⟩
      · exact ⟨by omega, by omega, fun h => by first | (cases h; done) | omega⟩
    have hr16 : ∀ x ∈ smp, -32768 ≤ x ∧ x ≤ 32767 := fun x hx => ⟨(hfit 1 (.inl rfl) x hx).1, (hfit 1 (.inl rfl) x hx).2.1⟩
    obtain ⟨mk1, to1, le1⟩ := codings_make (rate := R) (ch := C) (c := 1) (smp := smp) (by omega) (by omega) (by decide) (hfit _ (.inl rfl)) (by omega) hsd
    obtain ⟨mk2, to2, le2⟩ := codings_make (rate := R) (ch := C) (c := 1 + 2) (smp := smp) (by omega) (by omega) (by decide) (hfit _ (.inr rfl)) (by omega) hsd
    obtain ⟨hB, hvf, hsh, _⟩ := snd_valid le1 to1
    obtain ⟨V2, hV2, H, hr⟩ := Rel.freezeF H (fun _ => rfl) (by decide)
    ((repeat ((conv => whnf); first | refine an ?_ | ((first | refine H.nwD ?_ | refine H.nw ?_); clear H; intro w _ H) | refine H.ce ?_ | refine H.db ?_ | refine ea ?_ | refine ol ?_ | (refine H.st ?_; (conv => whnf); clear H; intro w H) | refine cT ?_ | refine cF ?_ | refine cN ?_ | refine cM ?_ | refine H.lw ?_ | refine H.ll ?_)); (conv => whnf))
    refine (plainSound_ref (ch := C) H.data (R : Int) (by omega) hr (by omega) hr16).use ?_
    rintro q w ⟨V3, h3, hV3, K, rfl, hv3⟩
    (have hKb := K.base; replace H := H.call0 K)
    ((repeat ((conv => whnf); first | refine an ?_ | refine H.ce ?_ | refine H.db ?_ | refine ea ?_ | refine ol ?_ | (refine H.st ?_; (conv => whnf); clear H; intro w H) | refine cT ?_ | refine cF ?_ | refine cN ?_ | refine cM ?_ | refine H.lw ?_ | refine H.ll ?_)); (conv => whnf))
    ((first | refine Rel.nwD H ?_ | refine Rel.nw H ?_); clear H; intro w b11 H)
    ((repeat ((conv => whnf); first | refine an ?_ | refine H.ce ?_ | refine H.db ?_ | refine ea ?_ | refine ol ?_ | (refine H.st ?_; (conv => whnf); clear H; intro w H) | refine cT ?_ | refine cF ?_ | refine cN ?_ | refine cM ?_ | refine H.lw ?_ | refine H.ll ?_)); (conv => whnf))
    have H0 : Rel W W [.blk b11 (valC h3) 27] V3 w := H.sx
    obtain ⟨V4, hV4, H, hb11⟩ := H0.freezeBlk
    clear H0
    replace hv3 := hv3.up hV4
    have z0 := hb11.cel (i := 0) rfl
    have z1 := hb11.cel (i := 1) rfl
    have z2 := hb11.cel (i := 2) rfl
    have z3 := hb11.cel (i := 3) rfl
    have z4 := hb11.cel (i := 4) rfl
    ((repeat ((conv => whnf); first | refine an ?_ | ((first | refine H.nwD ?_ | refine H.nw ?_); clear H; intro w _ H) | refine H.ce ?_ | refine H.db ?_ | refine ea ?_ | refine ol ?_ | (refine H.st ?_; (conv => whnf); clear H; intro w H) | refine cT ?_ | refine cF ?_ | refine cN ?_ | refine cM ?_ | refine H.lw ?_ | refine H.ll ?_)); (conv => whnf))
    have e1 : frRes (sndVal R C (sndPcm smp)) (sndShape (sndVal R C (sndPcm smp))).isSome (sndMake (sndVal R C (sndPcm smp)) (sndRes 1 [])) = (sndWrite R C 1 smp [], 0, 0) := by rw [hsh, mk1]; unfold frRes; rw [if_neg (fun h => h hvf)]; rfl
    have e2 : frRes (sndVal R C (sndPcm smp)) (sndShape (sndVal R C (sndPcm smp))).isSome (sndMake (sndVal R C (sndPcm smp)) (sndRes (1 + 2) [])) = (sndWrite R C (1 + 2) smp [], 0, 0) := by rw [hsh, mk2]; unfold frRes; rw [if_neg (fun h => h hvf)]; rfl
    refine SemC.cutN (fun q : Nat × Sl => [(11, .pointer (some ⟨b11, 0, none⟩)), (12, iv 1), (13, q.2.v), (14, .pointer (some ⟨q.1, 0, none⟩))])
      (fun q w' => ∃ V5, Sub V4 V5 ∧ Byt V5 q.2 (sndWrite R C 1 smp []) ∧ Rel W W [.blk q.1 [iv 0, iv 0] 29] V5 w') ?_ ?_
    · ((first | refine draw_vcTX (id := 18) tabOk mixed (Kv V4) Kv.trans [2, 7] [0] [0, 1, 2, 3, 4, 5, 6, 7, 8, 9] [(2, []), (3, [2]), (7, []), (9, [2, 3, 7])] (by kernel_rfl) ?_ | refine draw_vcTX (id := 19) tabOk mixed (Kv V4) Kv.trans [3, 8] [0] [0, 1, 2, 3, 4, 5, 6, 7, 8, 9, 10] [(3, []), (4, [3]), (8, []), (10, [3, 4, 8])] (by kernel_rfl) ?_); intro w hdw; replace H := Rel.ext H hdw.ext)
      repeat' (((repeat ((conv => whnf); first | refine an ?_ | refine H.ce ?_ | refine H.db ?_ | refine ea ?_ | refine ol ?_ | (refine H.st ?_; (conv => whnf); clear H; intro w H) | refine cT ?_ | refine cF ?_ | refine cN ?_ | refine cM ?_ | refine H.lw ?_ | refine H.ll ?_)); (conv => whnf)); first | (first | refine Kv.go H ?_ | refine Kv.go2 H (by assumption) ?_ | (refine And.intro (fun w1 hkp => ?_) ?_; focus ((first | have H := Kv.in H hkp | have H := Kv.in2 H (by assumption) hkp); ((repeat ((conv => whnf); first | refine an ?_ | refine H.ce ?_ | refine H.db ?_ | refine ea ?_ | refine ol ?_ | fail | refine cT ?_ | refine cF ?_ | refine cN ?_ | refine cM ?_ | refine H.lw ?_ | refine H.ll ?_)); (conv => whnf)); all_goals (first | exact ⟨rfl, rfl⟩ | exact rfl))) | refine And.intro ?_ ?_ | ((first | refine Rel.nwD H ?_ | refine Rel.nw H ?_); clear H; intro w _ H)) | (refine (soundOnly_ref (coding := 1) H.data (by decide)).use ?_; rintro q w ⟨V5, r5, hV5, K, rfl, hr5⟩; (have hKb := K.base; replace H := H.call0 K)) | (refine (from_sound H.data (hv3.up hV5) hB hr5 (sndRes_few (by decide))).use ?_; rintro q w ⟨V6, r6, hV6, K, rfl, hr6⟩; (have hKb := K.base; replace H := H.call0 K); have hV46 := hV5.trans hV6; rw [e1] at hr6; rw [e1]))
      all_goals
        ((repeat ((conv => whnf); first | refine an ?_ | ((first | refine H.nwD ?_ | refine H.nw ?_); clear H; intro w _ H) | refine H.ce ?_ | refine H.db ?_ | refine ea ?_ | refine ol ?_ | (refine H.st ?_; (conv => whnf); clear H; intro w H) | refine cT ?_ | refine cF ?_ | refine cN ?_ | refine cM ?_ | refine H.lw ?_ | refine H.ll ?_)); (conv => whnf))
        exact ⟨(_, r6), (by repeat (first | exact trivial | refine ⟨rfl, ?_⟩)), V6, hV46, hr6, H.pick⟩
    clear H
    rintro ⟨bf, ra⟩ w ⟨V5, hV5, hra, H⟩
    dsimp only at hra H ⊢
    obtain ⟨V6, hV6, H, hbf⟩ := H.freezeBlk
    have hV56 := hV5.trans hV6
    replace hra := hra.up hV6
    replace hv3 := hv3.up hV56
    have z0 := hV56.cell z0
    have z1 := hV56.cell z1
    have z2 := hV56.cell z2
    have z3 := hV56.cell z3
    have z4 := hV56.cell z4
    ((repeat ((conv => whnf); first | refine an ?_ | ((first | refine H.nwD ?_ | refine H.nw ?_); clear H; intro w _ H) | refine H.ce ?_ | refine H.db ?_ | refine ea ?_ | refine ol ?_ | (refine H.st ?_; (conv => whnf); clear H; intro w H) | refine cT ?_ | refine cF ?_ | refine cN ?_ | refine cM ?_ | refine H.lw ?_ | refine H.ll ?_)); (conv => whnf))
    refine SemC.cutN (fun q : Nat × Sl => [(11, .pointer (some ⟨b11, 0, none⟩)), (13, ra.v), (14, .pointer (some ⟨bf, 0, none⟩)), (15, q.2.v), (16, .pointer (some ⟨q.1, 0, none⟩))])
      (fun q w' => ∃ V7, Sub V6 V7 ∧ Byt V7 q.2 (sndWrite R C (1 + 2) smp []) ∧ Rel W W [.blk q.1 [iv 0, iv 0] 29] V7 w') ?_ ?_
    · ((first | refine draw_vcTX (id := 18) tabOk mixed (Kv V6) Kv.trans [2, 7] [0] [0, 1, 2, 3, 4, 5, 6, 7, 8, 9] [(2, []), (3, [2]), (7, []), (9, [2, 3, 7])] (by kernel_rfl) ?_ | refine draw_vcTX (id := 19) tabOk mixed (Kv V6) Kv.trans [3, 8] [0] [0, 1, 2, 3, 4, 5, 6, 7, 8, 9, 10] [(3, []), (4, [3]), (8, []), (10, [3, 4, 8])] (by kernel_rfl) ?_); intro w hdw; replace H := Rel.ext H hdw.ext)
      repeat' (((repeat ((conv => whnf); first | refine an ?_ | refine H.ce ?_ | refine H.db ?_ | refine ea ?_ | refine ol ?_ | (refine H.st ?_; (conv => whnf); clear H; intro w H) | refine cT ?_ | refine cF ?_ | refine cN ?_ | refine cM ?_ | refine H.lw ?_ | refine H.ll ?_)); (conv => whnf)); first | (first | refine Kv.go H ?_ | refine Kv.go2 H (by assumption) ?_ | (refine And.intro (fun w1 hkp => ?_) ?_; focus ((first | have H := Kv.in H hkp | have H := Kv.in2 H (by assumption) hkp); ((repeat ((conv => whnf); first | refine an ?_ | refine H.ce ?_ | refine H.db ?_ | refine ea ?_ | refine ol ?_ | fail | refine cT ?_ | refine cF ?_ | refine cN ?_ | refine cM ?_ | refine H.lw ?_ | refine H.ll ?_)); (conv => whnf)); all_goals (first | exact ⟨rfl, rfl⟩ | exact rfl))) | refine And.intro ?_ ?_ | ((first | refine Rel.nwD H ?_ | refine Rel.nw H ?_); clear H; intro w _ H)) | (refine (soundOnly_ref (coding := 1 + 2) H.data (by decide)).use ?_; rintro q w ⟨V7, r7, hV7, K, rfl, hr7⟩; (have hKb := K.base; replace H := H.call0 K)) | (refine (from_sound H.data (hv3.up hV7) hB hr7 (sndRes_few (by decide))).use ?_; rintro q w ⟨V8, r8, hV8, K, rfl, hr8⟩; (have hKb := K.base; replace H := H.call0 K); have hV68 := hV7.trans hV8; rw [e2] at hr8; rw [e2]))
      all_goals
        ((repeat ((conv => whnf); first | refine an ?_ | ((first | refine H.nwD ?_ | refine H.nw ?_); clear H; intro w _ H) | refine H.ce ?_ | refine H.db ?_ | refine ea ?_ | refine ol ?_ | (refine H.st ?_; (conv => whnf); clear H; intro w H) | refine cT ?_ | refine cF ?_ | refine cN ?_ | refine cM ?_ | refine H.lw ?_ | refine H.ll ?_)); (conv => whnf))
        exact ⟨(_, r8), (by repeat (first | exact trivial | refine ⟨rfl, ?_⟩)), V8, hV68, hr8, H.pick⟩
    clear H
    rintro ⟨bg, rb⟩ w ⟨V7, hV7, hrb, H⟩
    dsimp only at hrb H ⊢
    obtain ⟨V8, hV8, H, hbg⟩ := H.freezeBlk
    have hV78 := hV7.trans hV8
    replace hrb := hrb.up hV8
    replace hra := hra.up hV78
    replace hv3 := hv3.up hV78
    have z0 := hV78.cell z0
    have z1 := hV78.cell z1
    have z2 := hV78.cell z2
    have z3 := hV78.cell z3
    have z4 := hV78.cell z4
    have f0 := hV78.cell (hbf.cel (i := 0) rfl)
    have g0 := hbg.cel (i := 0) rfl
    ((repeat ((conv => whnf); first | refine an ?_ | ((first | refine H.nwD ?_ | refine H.nw ?_); clear H; intro w _ H) | refine H.ce ?_ | refine H.db ?_ | refine ea ?_ | refine ol ?_ | (refine H.st ?_; (conv => whnf); clear H; intro w H) | refine cT ?_ | refine cF ?_ | refine cN ?_ | refine cM ?_ | refine H.lw ?_ | refine H.ll ?_)); (conv => whnf))
    refine (to_sound H.data hra (by omega)).use ?_
    rintro q w ⟨V9, h9, r9, hV9, K, rfl, hv9, hr9⟩
    (have hKb := K.base; replace H := H.call0 K)
    have e3 : toRes (sndTo (sndWrite R C 1 smp [])) (sndWrite R C 1 smp []).length = ⟨sndVal R C (sndPcm smp), sndRes 1 [], 0, 0⟩ := by unfold toRes; rw [if_neg (by omega), to1]
    rw [e3] at hv9 hr9 ⊢
    dsimp only at hv9 hr9 ⊢
    ((repeat ((conv => whnf); first | refine an ?_ | refine H.ce ?_ | refine H.db ?_ | refine ea ?_ | refine ol ?_ | (refine H.st ?_; (conv => whnf); clear H; intro w H) | refine cT ?_ | refine cF ?_ | refine cN ?_ | refine cM ?_ | refine H.lw ?_ | refine H.ll ?_)); (conv => whnf))
    ((first | refine Rel.nwD H ?_ | refine Rel.nw H ?_); clear H; intro w b17 H)
    ((repeat ((conv => whnf); first | refine an ?_ | refine H.ce ?_ | refine H.db ?_ | refine ea ?_ | refine ol ?_ | (refine H.st ?_; (conv => whnf); clear H; intro w H) | refine cT ?_ | refine cF ?_ | refine cN ?_ | refine cM ?_ | refine H.lw ?_ | refine H.ll ?_)); (conv => whnf))
    ((first | refine Rel.nwD H ?_ | refine Rel.nw H ?_); clear H; intro w b19 H)
    ((repeat ((conv => whnf); first | refine an ?_ | ((first | refine H.nwD ?_ | refine H.nw ?_); clear H; intro w _ H) | refine H.ce ?_ | refine H.db ?_ | refine ea ?_ | refine ol ?_ | (refine H.st ?_; (conv => whnf); clear H; intro w H) | refine cT ?_ | refine cF ?_ | refine cN ?_ | refine cM ?_ | refine H.lw ?_ | refine H.ll ?_)); (conv => whnf))
    refine (to_sound H.data (hrb.up hV9) (by omega)).use ?_
    rintro q w ⟨V10, h10, r10, hV10, K, rfl, hv10, hr10⟩
    (have hKb := K.base; replace H := Rel.call H K)
    simp only [List.cons_append, List.nil_append] at H
    have e4 : toRes (sndTo (sndWrite R C (1 + 2) smp [])) (sndWrite R C (1 + 2) smp []).length = ⟨sndVal R C (sndPcm smp), sndRes (1 + 2) [], 0, 0⟩ := by unfold toRes; rw [if_neg (by omega), to2]
    rw [e4] at hv10 hr10 ⊢
    dsimp only at hv10 hr10 ⊢
    have hVA := hV9.trans hV10
    have z0 := hVA.cell z0
    have z1 := hVA.cell z1
    have z2 := hVA.cell z2
    have z3 := hVA.cell z3
    have z4 := hVA.cell z4
    have f0 := hVA.cell f0
    have g0 := hVA.cell g0
    ((repeat ((conv => whnf); first | refine an ?_ | refine H.ce ?_ | refine H.db ?_ | refine ea ?_ | refine ol ?_ | (refine H.st ?_; (conv => whnf); clear H; intro w H) | refine cT ?_ | refine cF ?_ | refine cN ?_ | refine cM ?_ | refine H.lw ?_ | refine H.ll ?_)); (conv => whnf))
    ((first | refine Rel.nwD H ?_ | refine Rel.nw H ?_); clear H; intro w b20 H)
    ((repeat ((conv => whnf); first | refine an ?_ | refine H.ce ?_ | refine H.db ?_ | refine ea ?_ | refine ol ?_ | (refine H.st ?_; (conv => whnf); clear H; intro w H) | refine cT ?_ | refine cF ?_ | refine cN ?_ | refine cM ?_ | refine H.lw ?_ | refine H.ll ?_)); (conv => whnf))
    ((first | refine Rel.nwD H ?_ | refine Rel.nw H ?_); clear H; intro w b22 H)
    ((repeat ((conv => whnf); first | refine an ?_ | ((first | refine H.nwD ?_ | refine H.nw ?_); clear H; intro w _ H) | refine H.ce ?_ | refine H.db ?_ | refine ea ?_ | refine ol ?_ | (refine H.st ?_; (conv => whnf); clear H; intro w H) | refine cT ?_ | refine cF ?_ | refine cN ?_ | refine cM ?_ | refine H.lw ?_ | refine H.ll ?_)); (conv => whnf))
    refine (same_value (SizeOf.sizeOf ((sndVal R C (sndPcm smp)) : Val) + 1) H.data (Nat.lt_succ_self _) (hv9.up hV10) (hv3.up hVA) (vb_big hB)).use ?_
    rintro q w ⟨r0, rfl, hsame, K⟩
    (have hKb := K.base; replace H := Rel.call H K)
    simp only [List.cons_append, List.nil_append] at H
    obtain rfl := hsame.2 rfl
    ((repeat ((conv => whnf); first | refine an ?_ | ((first | refine H.nwD ?_ | refine H.nw ?_); clear H; intro w _ H) | refine H.ce ?_ | refine H.db ?_ | refine ea ?_ | refine ol ?_ | (refine H.st ?_; (conv => whnf); clear H; intro w H) | refine cT ?_ | refine cF ?_ | refine cN ?_ | refine cM ?_ | refine H.lw ?_ | refine H.ll ?_)); (conv => whnf))
    refine (same_value (SizeOf.sizeOf ((sndVal R C (sndPcm smp)) : Val) + 1) H.data (Nat.lt_succ_self _) hv10 (hv3.up hVA) (vb_big hB)).use ?_
    rintro q w ⟨r0, rfl, hsame, K⟩
    (have hKb := K.base; replace H := Rel.call H K)
    simp only [List.cons_append, List.nil_append] at H
    obtain rfl := hsame.2 rfl
    ((repeat ((conv => whnf); first | refine an ?_ | ((first | refine H.nwD ?_ | refine H.nw ?_); clear H; intro w _ H) | refine H.ce ?_ | refine H.db ?_ | refine ea ?_ | refine ol ?_ | (refine H.st ?_; (conv => whnf); clear H; intro w H) | refine cT ?_ | refine cF ?_ | refine cN ?_ | refine cM ?_ | refine H.lw ?_ | refine H.ll ?_)); (conv => whnf))
    (first | exact H.base | exact ⟨by simp, H.base⟩ | exact ⟨rfl, H.base⟩)
  | false =>
    refine loop_inv (S := Nat × Sl) tabOk [0, 1, 2, 3, 11, 12, 13, 14, 15, 16, 17, 19, 20, 22, 24, 37, 76] (fun k => [(9, k.2.v), (10, iv k.1)]) (fun k w' => k.1 ≤ n ∧ (∀ x ∈ l.take k.1, -128 ≤ x ∧ x ≤ 127) ∧ Rel W W [.row k.2 3 1 (((l.take k.1).map (· * 256)).flatMap itC)] V1 w') (fun k _ => n - k.1) (0, ⟨none, 0, 0⟩) ?_
    (conv => whnf)
    refine ⟨(by repeat (first | exact trivial | refine ⟨rfl, ?_⟩)), ⟨by omega, by simp, H⟩, ?_⟩
    clear H
    rintro ⟨k, r⟩ w ⟨hk, hrg, H⟩
    dsimp only at hk hrg H ⊢
    by_cases hlt : k < n
    · obtain ⟨p0, d0⟩ := (hs.up hV1).at1 (g := iv) (fun _ => rfl) (show k < l.length by omega)
      have t1 := snoc_take (show k < l.length by omega)
      generalize l[k] = y at d0 t1
      ((repeat ((conv => whnf); first | refine an ?_ | ((first | refine H.nwD ?_ | refine H.nw ?_); clear H; intro w _ H) | refine H.ce ?_ | refine H.db ?_ | refine ea ?_ | refine ol ?_ | (refine H.st ?_; (conv => whnf); clear H; intro w H) | refine cT ?_ | refine cF ?_ | refine cN ?_ | refine cM ?_ | refine H.lw ?_ | refine H.ll ?_)); (conv => whnf))
      refine (in_ref y (-128) 127 w).use ?_
      rintro q w' ⟨rfl, rfl⟩
      by_cases hy : -128 ≤ y ∧ y ≤ 127
      rotate_left
      · rw [decide_eq_false hy]
        ((repeat ((conv => whnf); first | refine an ?_ | ((first | refine H.nwD ?_ | refine H.nw ?_); clear H; intro w _ H) | refine H.ce ?_ | refine H.db ?_ | refine ea ?_ | refine ol ?_ | (refine H.st ?_; (conv => whnf); clear H; intro w H) | refine cT ?_ | refine cF ?_ | refine cN ?_ | refine cM ?_ | refine H.lw ?_ | refine H.ll ?_)); (conv => whnf))
        (first | exact H.base | exact ⟨by simp, H.base⟩ | exact ⟨rfl, H.base⟩)
      rw [decide_eq_true hy]
      ((repeat ((conv => whnf); first | refine an ?_ | ((first | refine H.nwD ?_ | refine H.nw ?_); clear H; intro w _ H) | refine H.ce ?_ | refine H.db ?_ | refine ea ?_ | refine ol ?_ | (refine H.st ?_; (conv => whnf); clear H; intro w H) | refine cT ?_ | refine cF ?_ | refine cN ?_ | refine cM ?_ | refine H.lw ?_ | refine H.ll ?_)); (conv => whnf))
      refine Rel.app1_0 (f := itC) (s := r) (l := (l.take k).map (· * 256)) (x := y * 256) tabOk rfl rfl rfl rfl rfl (by decide) (fun _ => rfl) (List.all_eq_true.1 rfl) (H.blkEq (congrArg (fun z => [Value.int .i64 z]) (Int.mul_comm _ _))) (by rw [List.length_map, List.length_take]; simp; omega) (by rw [List.length_map, List.length_take]; omega) ?_
      clear H
      intro r2 w H
      ((repeat ((conv => whnf); first | refine an ?_ | ((first | refine H.nwD ?_ | refine H.nw ?_); clear H; intro w _ H) | refine H.ce ?_ | refine H.db ?_ | refine ea ?_ | refine ol ?_ | (refine H.st ?_; (conv => whnf); clear H; intro w H) | refine cT ?_ | refine cF ?_ | refine cN ?_ | refine cM ?_ | refine H.lw ?_ | refine H.ll ?_)); (conv => whnf))
      refine ⟨(by repeat (first | exact trivial | refine ⟨rfl, ?_⟩)), (k + 1, r2), (by repeat (first | exact trivial | refine ⟨rfl, ?_⟩)), ⟨by dsimp only; omega, ?_, ?_⟩, by dsimp only; omega⟩
      · dsimp only
        rw [t1]
        intro x hx
        rcases List.mem_append.1 hx with hx | hx
        · exact hrg x hx
        · rw [List.mem_singleton.1 hx]; exact hy
      · dsimp only
        rw [t1, List.map_append]
        exact H.sx
    have hkn : k = n := by omega
    subst hkn
    obtain ⟨smp, hsmp⟩ : ∃ smp, smp = (l.take k).map (· * 256) := ⟨_, rfl⟩
    rw [← hsmp] at H
    have hsl : smp.length = k := by rw [hsmp, List.length_map, List.length_take]; omega
    have hsd : smp.length % C = 0 := by rw [hsl]; exact hnd
    have hfit : ∀ c, (c = 0 ∨ c = 0 + 2) → ∀ x ∈ smp, fits (isWide c) x := by
      intro c hc x hx
      rw [hsmp] at hx
      obtain ⟨y, hy, rfl⟩ := List.mem_map.1 hx
      have := hrg y hy
      rcases hc with rfl | rfl
      · exact ⟨by omega, by omega, fun h => by first | (cases h; done) | omega⟩
      · exact ⟨by omega, by omega, fun h => by first | (cases h; done) | omega⟩
    have hr16 : ∀ x ∈ smp, -32768 ≤ x ∧ x ≤ 32767 := fun x hx => ⟨(hfit 0 (.inl rfl) x hx).1, (hfit 0 (.inl rfl) x hx).2.1⟩
    obtain ⟨mk1, to1, le1⟩ := codings_make (rate := R) (ch := C) (c := 0) (smp := smp) (by omega) (by omega) (by decide) (hfit _ (.inl rfl)) (by omega) hsd
    obtain ⟨mk2, to2, le2⟩ := codings_make (rate := R) (ch := C) (c := 0 + 2) (smp := smp) (by omega) (by omega) (by decide) (hfit _ (.inr rfl)) (by omega) hsd
    obtain ⟨hB, hvf, hsh, _⟩ := snd_valid le1 to1
    obtain ⟨V2, hV2, H, hr⟩ := Rel.freezeF H (fun _ => rfl) (by decide)
    ((repeat ((conv => whnf); first | refine an ?_ | ((first | refine H.nwD ?_ | refine H.nw ?_); clear H; intro w _ H) | refine H.ce ?_ | refine H.db ?_ | refine ea ?_ | refine ol ?_ | (refine H.st ?_; (conv => whnf); clear H; intro w H) | refine cT ?_ | refine cF ?_ | refine cN ?_ | refine cM ?_ | refine H.lw ?_ | refine H.ll ?_)); (conv => whnf))
    refine (plainSound_ref (ch := C) H.data (R : Int) (by omega) hr (by omega) hr16).use ?_
    rintro q w ⟨V3, h3, hV3, K, rfl, hv3⟩
    (have hKb := K.base; replace H := H.call0 K)
    ((repeat ((conv => whnf); first | refine an ?_ | refine H.ce ?_ | refine H.db ?_ | refine ea ?_ | refine ol ?_ | (refine H.st ?_; (conv => whnf); clear H; intro w H) | refine cT ?_ | refine cF ?_ | refine cN ?_ | refine cM ?_ | refine H.lw ?_ | refine H.ll ?_)); (conv => whnf))
    ((first | refine Rel.nwD H ?_ | refine Rel.nw H ?_); clear H; intro w b11 H)
    ((repeat ((conv => whnf); first | refine an ?_ | refine H.ce ?_ | refine H.db ?_ | refine ea ?_ | refine ol ?_ | (refine H.st ?_; (conv => whnf); clear H; intro w H) | refine cT ?_ | refine cF ?_ | refine cN ?_ | refine cM ?_ | refine H.lw ?_ | refine H.ll ?_)); (conv => whnf))
    have H0 : Rel W W [.blk b11 (valC h3) 27] V3 w := H.sx
    obtain ⟨V4, hV4, H, hb11⟩ := H0.freezeBlk
    clear H0
    replace hv3 := hv3.up hV4
    have z0 := hb11.cel (i := 0) rfl
    have z1 := hb11.cel (i := 1) rfl
    have z2 := hb11.cel (i := 2) rfl
    have z3 := hb11.cel (i := 3) rfl
    have z4 := hb11.cel (i := 4) rfl
    ((repeat ((conv => whnf); first | refine an ?_ | ((first | refine H.nwD ?_ | refine H.nw ?_); clear H; intro w _ H) | refine H.ce ?_ | refine H.db ?_ | refine ea ?_ | refine ol ?_ | (refine H.st ?_; (conv => whnf); clear H; intro w H) | refine cT ?_ | refine cF ?_ | refine cN ?_ | refine cM ?_ | refine H.lw ?_ | refine H.ll ?_)); (conv => whnf))
    have e1 : frRes (sndVal R C (sndPcm smp)) (sndShape (sndVal R C (sndPcm smp))).isSome (sndMake (sndVal R C (sndPcm smp)) (sndRes 0 [])) = (sndWrite R C 0 smp [], 0, 0) := by rw [hsh, mk1]; unfold frRes; rw [if_neg (fun h => h hvf)]; rfl
    have e2 : frRes (sndVal R C (sndPcm smp)) (sndShape (sndVal R C (sndPcm smp))).isSome (sndMake (sndVal R C (sndPcm smp)) (sndRes (0 + 2) [])) = (sndWrite R C (0 + 2) smp [], 0, 0) := by rw [hsh, mk2]; unfold frRes; rw [if_neg (fun h => h hvf)]; rfl
    refine SemC.cutN (fun q : Nat × Sl => [(11, .pointer (some ⟨b11, 0, none⟩)), (12, iv 0), (13, q.2.v), (14, .pointer (some ⟨q.1, 0, none⟩))])
      (fun q w' => ∃ V5, Sub V4 V5 ∧ Byt V5 q.2 (sndWrite R C 0 smp []) ∧ Rel W W [.blk q.1 [iv 0, iv 0] 29] V5 w') ?_ ?_
    · ((first | refine draw_vcTX (id := 18) tabOk mixed (Kv V4) Kv.trans [2, 7] [0] [0, 1, 2, 3, 4, 5, 6, 7, 8, 9] [(2, []), (3, [2]), (7, []), (9, [2, 3, 7])] (by kernel_rfl) ?_ | refine draw_vcTX (id := 19) tabOk mixed (Kv V4) Kv.trans [3, 8] [0] [0, 1, 2, 3, 4, 5, 6, 7, 8, 9, 10] [(3, []), (4, [3]), (8, []), (10, [3, 4, 8])] (by kernel_rfl) ?_); intro w hdw; replace H := Rel.ext H hdw.ext)
      repeat' (((repeat ((conv => whnf); first | refine an ?_ | refine H.ce ?_ | refine H.db ?_ | refine ea ?_ | refine ol ?_ | (refine H.st ?_; (conv => whnf); clear H; intro w H) | refine cT ?_ | refine cF ?_ | refine cN ?_ | refine cM ?_ | refine H.lw ?_ | refine H.ll ?_)); (conv => whnf)); first | (first | refine Kv.go H ?_ | refine Kv.go2 H (by assumption) ?_ | (refine And.intro (fun w1 hkp => ?_) ?_; focus ((first | have H := Kv.in H hkp | have H := Kv.in2 H (by assumption) hkp); ((repeat ((conv => whnf); first | refine an ?_ | refine H.ce ?_ | refine H.db ?_ | refine ea ?_ | refine ol ?_ | fail | refine cT ?_ | refine cF ?_ | refine cN ?_ | refine cM ?_ | refine H.lw ?_ | refine H.ll ?_)); (conv => whnf)); all_goals (first | exact ⟨rfl, rfl⟩ | exact rfl))) | refine And.intro ?_ ?_ | ((first | refine Rel.nwD H ?_ | refine Rel.nw H ?_); clear H; intro w _ H)) | (refine (soundOnly_ref (coding := 0) H.data (by decide)).use ?_; rintro q w ⟨V5, r5, hV5, K, rfl, hr5⟩; (have hKb := K.base; replace H := H.call0 K)) | (refine (from_sound H.data (hv3.up hV5) hB hr5 (sndRes_few (by decide))).use ?_; rintro q w ⟨V6, r6, hV6, K, rfl, hr6⟩; (have hKb := K.base; replace H := H.call0 K); have hV46 := hV5.trans hV6; rw [e1] at hr6; rw [e1]))
      all_goals
        ((repeat ((conv => whnf); first | refine an ?_ | ((first | refine H.nwD ?_ | refine H.nw ?_); clear H; intro w _ H) | refine H.ce ?_ | refine H.db ?_ | refine ea ?_ | refine ol ?_ | (refine H.st ?_; (conv => whnf); clear H; intro w H) | refine cT ?_ | refine cF ?_ | refine cN ?_ | refine cM ?_ | refine H.lw ?_ | refine H.ll ?_)); (conv => whnf))
        exact ⟨(_, r6), (by repeat (first | exact trivial | refine ⟨rfl, ?_⟩)), V6, hV46, hr6, H.pick⟩
    clear H
    rintro ⟨bf, ra⟩ w ⟨V5, hV5, hra, H⟩
    dsimp only at hra H ⊢
    obtain ⟨V6, hV6, H, hbf⟩ := H.freezeBlk
    have hV56 := hV5.trans hV6
    replace hra := hra.up hV6
    replace hv3 := hv3.up hV56
    have z0 := hV56.cell z0
    have z1 := hV56.cell z1
    have z2 := hV56.cell z2
    have z3 := hV56.cell z3
    have z4 := hV56.cell z4
    ((repeat ((conv => whnf); first | refine an ?_ | ((first | refine H.nwD ?_ | refine H.nw ?_); clear H; intro w _ H) | refine H.ce ?_ | refine H.db ?_ | refine ea ?_ | refine ol ?_ | (refine H.st ?_; (conv => whnf); clear H; intro w H) | refine cT ?_ | refine cF ?_ | refine cN ?_ | refine cM ?_ | refine H.lw ?_ | refine H.ll ?_)); (conv => whnf))
    refine SemC.cutN (fun q : Nat × Sl => [(11, .pointer (some ⟨b11, 0, none⟩)), (13, ra.v), (14, .pointer (some ⟨bf, 0, none⟩)), (15, q.2.v), (16, .pointer (some ⟨q.1, 0, none⟩))])
      (fun q w' => ∃ V7, Sub V6 V7 ∧ Byt V7 q.2 (sndWrite R C (0 + 2) smp []) ∧ Rel W W [.blk q.1 [iv 0, iv 0] 29] V7 w') ?_ ?_
    · ((first | refine draw_vcTX (id := 18) tabOk mixed (Kv V6) Kv.trans [2, 7] [0] [0, 1, 2, 3, 4, 5, 6, 7, 8, 9] [(2, []), (3, [2]), (7, []), (9, [2, 3, 7])] (by kernel_rfl) ?_ | refine draw_vcTX (id := 19) tabOk mixed (Kv V6) Kv.trans [3, 8] [0] [0, 1, 2, 3, 4, 5, 6, 7, 8, 9, 10] [(3, []), (4, [3]), (8, []), (10, [3, 4, 8])] (by kernel_rfl) ?_); intro w hdw; replace H := Rel.ext H hdw.ext)
      repeat' (((repeat ((conv => whnf); first | refine an ?_ | refine H.ce ?_ | refine H.db ?_ | refine ea ?_ | refine ol ?_ | (refine H.st ?_; (conv => whnf); clear H; intro w H) | refine cT ?_ | refine cF ?_ | refine cN ?_ | refine cM ?_ | refine H.lw ?_ | refine H.ll ?_)); (conv => whnf)); first | (first | refine Kv.go H ?_ | refine Kv.go2 H (by assumption) ?_ | (refine And.intro (fun w1 hkp => ?_) ?_; focus ((first | have H := Kv.in H hkp | have H := Kv.in2 H (by assumption) hkp); ((repeat ((conv => whnf); first | refine an ?_ | refine H.ce ?_ | refine H.db ?_ | refine ea ?_ | refine ol ?_ | fail | refine cT ?_ | refine cF ?_ | refine cN ?_ | refine cM ?_ | refine H.lw ?_ | refine H.ll ?_)); (conv => whnf)); all_goals (first | exact ⟨rfl, rfl⟩ | exact rfl))) | refine And.intro ?_ ?_ | ((first | refine Rel.nwD H ?_ | refine Rel.nw H ?_); clear H; intro w _ H)) | (refine (soundOnly_ref (coding := 0 + 2) H.data (by decide)).use ?_; rintro q w ⟨V7, r7, hV7, K, rfl, hr7⟩; (have hKb := K.base; replace H := H.call0 K)) | (refine (from_sound H.data (hv3.up hV7) hB hr7 (sndRes_few (by decide))).use ?_; rintro q w ⟨V8, r8, hV8, K, rfl, hr8⟩; (have hKb := K.base; replace H := H.call0 K); have hV68 := hV7.trans hV8; rw [e2] at hr8; rw [e2]))
      all_goals
        ((repeat ((conv => whnf); first | refine an ?_ | ((first | refine H.nwD ?_ | refine H.nw ?_); clear H; intro w _ H) | refine H.ce ?_ | refine H.db ?_ | refine ea ?_ | refine ol ?_ | (refine H.st ?_; (conv => whnf); clear H; intro w H) | refine cT ?_ | refine cF ?_ | refine cN ?_ | refine cM ?_ | refine H.lw ?_ | refine H.ll ?_)); (conv => whnf))
        exact ⟨(_, r8), (by repeat (first | exact trivial | refine ⟨rfl, ?_⟩)), V8, hV68, hr8, H.pick⟩
    clear H
    rintro ⟨bg, rb⟩ w ⟨V7, hV7, hrb, H⟩
    dsimp only at hrb H ⊢
    obtain ⟨V8, hV8, H, hbg⟩ := H.freezeBlk
    have hV78 := hV7.trans hV8
    replace hrb := hrb.up hV8
    replace hra := hra.up hV78
    replace hv3 := hv3.up hV78
    have z0 := hV78.cell z0
    have z1 := hV78.cell z1
    have z2 := hV78.cell z2
    have z3 := hV78.cell z3
    have z4 := hV78.cell z4
    have f0 := hV78.cell (hbf.cel (i := 0) rfl)
    have g0 := hbg.cel (i := 0) rfl
    ((repeat ((conv => whnf); first | refine an ?_ | ((first | refine H.nwD ?_ | refine H.nw ?_); clear H; intro w _ H) | refine H.ce ?_ | refine H.db ?_ | refine ea ?_ | refine ol ?_ | (refine H.st ?_; (conv => whnf); clear H; intro w H) | refine cT ?_ | refine cF ?_ | refine cN ?_ | refine cM ?_ | refine H.lw ?_ | refine H.ll ?_)); (conv => whnf))
    refine (to_sound H.data hra (by omega)).use ?_
    rintro q w ⟨V9, h9, r9, hV9, K, rfl, hv9, hr9⟩
    (have hKb := K.base; replace H := H.call0 K)
    have e3 : toRes (sndTo (sndWrite R C 0 smp [])) (sndWrite R C 0 smp []).length = ⟨sndVal R C (sndPcm smp), sndRes 0 [], 0, 0⟩ := by unfold toRes; rw [if_neg (by omega), to1]
    rw [e3] at hv9 hr9 ⊢
    dsimp only at hv9 hr9 ⊢
    ((repeat ((conv => whnf); first | refine an ?_ | refine H.ce ?_ | refine H.db ?_ | refine ea ?_ | refine ol ?_ | (refine H.st ?_; (conv => whnf); clear H; intro w H) | refine cT ?_ | refine cF ?_ | refine cN ?_ | refine cM ?_ | refine H.lw ?_ | refine H.ll ?_)); (conv => whnf))
    ((first | refine Rel.nwD H ?_ | refine Rel.nw H ?_); clear H; intro w b17 H)
    ((repeat ((conv => whnf); first | refine an ?_ | refine H.ce ?_ | refine H.db ?_ | refine ea ?_ | refine ol ?_ | (refine H.st ?_; (conv => whnf); clear H; intro w H) | refine cT ?_ | refine cF ?_ | refine cN ?_ | refine cM ?_ | refine H.lw ?_ | refine H.ll ?_)); (conv => whnf))
    ((first | refine Rel.nwD H ?_ | refine Rel.nw H ?_); clear H; intro w b19 H)
    ((repeat ((conv => whnf); first | refine an ?_ | ((first | refine H.nwD ?_ | refine H.nw ?_); clear H; intro w _ H) | refine H.ce ?_ | refine H.db ?_ | refine ea ?_ | refine ol ?_ | (refine H.st ?_; (conv => whnf); clear H; intro w H) | refine cT ?_ | refine cF ?_ | refine cN ?_ | refine cM ?_ | refine H.lw ?_ | refine H.ll ?_)); (conv => whnf))
    refine (to_sound H.data (hrb.up hV9) (by omega)).use ?_
    rintro q w ⟨V10, h10, r10, hV10, K, rfl, hv10, hr10⟩
    (have hKb := K.base; replace H := Rel.call H K)
    simp only [List.cons_append, List.nil_append] at H
    have e4 : toRes (sndTo (sndWrite R C (0 + 2) smp [])) (sndWrite R C (0 + 2) smp []).length = ⟨sndVal R C (sndPcm smp), sndRes (0 + 2) [], 0, 0⟩ := by unfold toRes; rw [if_neg (by omega), to2]
    rw [e4] at hv10 hr10 ⊢
    dsimp only at hv10 hr10 ⊢
    have hVA := hV9.trans hV10
    have z0 := hVA.cell z0
    have z1 := hVA.cell z1
    have z2 := hVA.cell z2
    have z3 := hVA.cell z3
    have z4 := hVA.cell z4
    have f0 := hVA.cell f0
    have g0 := hVA.cell g0
    ((repeat ((conv => whnf); first | refine an ?_ | refine H.ce ?_ | refine H.db ?_ | refine ea ?_ | refine ol ?_ | (refine H.st ?_; (conv => whnf); clear H; intro w H) | refine cT ?_ | refine cF ?_ | refine cN ?_ | refine cM ?_ | refine H.lw ?_ | refine H.ll ?_)); (conv => whnf))
    ((first | refine Rel.nwD H ?_ | refine Rel.nw H ?_); clear H; intro w b20 H)
    ((repeat ((conv => whnf); first | refine an ?_ | refine H.ce ?_ | refine H.db ?_ | refine ea ?_ | refine ol ?_ | (refine H.st ?_; (conv => whnf); clear H; intro w H) | refine cT ?_ | refine cF ?_ | refine cN ?_ | refine cM ?_ | refine H.lw ?_ | refine H.ll ?_)); (conv => whnf))
    ((first | refine Rel.nwD H ?_ | refine Rel.nw H ?_); clear H; intro w b22 H)
    ((repeat ((conv => whnf); first | refine an ?_ | ((first | refine H.nwD ?_ | refine H.nw ?_); clear H; intro w _ H) | refine H.ce ?_ | refine H.db ?_ | refine ea ?_ | refine ol ?_ | (refine H.st ?_; (conv => whnf); clear H; intro w H) | refine cT ?_ | refine cF ?_ | refine cN ?_ | refine cM ?_ | refine H.lw ?_ | refine H.ll ?_)); (conv => whnf))
    refine (same_value (SizeOf.sizeOf ((sndVal R C (sndPcm smp)) : Val) + 1) H.data (Nat.lt_succ_self _) (hv9.up hV10) (hv3.up hVA) (vb_big hB)).use ?_
    rintro q w ⟨r0, rfl, hsame, K⟩
    (have hKb := K.base; replace H := Rel.call H K)
    simp only [List.cons_append, List.nil_append] at H
    obtain rfl := hsame.2 rfl
    ((repeat ((conv => whnf); first | refine an ?_ | ((first | refine H.nwD ?_ | refine H.nw ?_); clear H; intro w _ H) | refine H.ce ?_ | refine H.db ?_ | refine ea ?_ | refine ol ?_ | (refine H.st ?_; (conv => whnf); clear H; intro w H) | refine cT ?_ | refine cF ?_ | refine cN ?_ | refine cM ?_ | refine H.lw ?_ | refine H.ll ?_)); (conv => whnf))
    refine (same_value (SizeOf.sizeOf ((sndVal R C (sndPcm smp)) : Val) + 1) H.data (Nat.lt_succ_self _) hv10 (hv3.up hVA) (vb_big hB)).use ?_
    rintro q w ⟨r0, rfl, hsame, K⟩
    (have hKb := K.base; replace H := Rel.call H K)
    simp only [List.cons_append, List.nil_append] at H
    obtain rfl := hsame.2 rfl
    ((repeat ((conv => whnf); first | refine an ?_ | ((first | refine H.nwD ?_ | refine H.nw ?_); clear H; intro w _ H) | refine H.ce ?_ | refine H.db ?_ | refine ea ?_ | refine ol ?_ | (refine H.st ?_; (conv => whnf); clear H; intro w H) | refine cT ?_ | refine cF ?_ | refine cN ?_ | refine cM ?_ | refine H.lw ?_ | refine H.ll ?_)); (conv => whnf))
    (first | exact H.base | exact ⟨by simp, H.base⟩ | exact ⟨rfl, H.base⟩)
end Go.Proofs.Ytjfcpnlacodjjaa
