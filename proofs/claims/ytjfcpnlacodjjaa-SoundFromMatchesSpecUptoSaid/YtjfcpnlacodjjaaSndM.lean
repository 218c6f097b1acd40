/-
  Sound files: Explain and From.
-/
import Derived.Test.YtjfcpnlacodjjaaSndL
namespace Go.Proofs.Ytjfcpnlacodjjaa
open Go Go.RowKit

abbrev sCoding : List UInt8 := [99, 111, 100, 105, 110, 103]
abbrev sOther : List UInt8 := [111, 116, 104, 101, 114, 32, 99, 104, 117, 110, 107, 115]
def lossOf (c : Nat) (ns : List Note) : List LossD := (if c ≠ 1 then [(sCoding, (c : Int))] else []) ++ (if ns ≠ [] then [(sOther, (ns.length : Int))] else [])
def sndLoss (b : List UInt8) : Option (List LossD) := match sndRd b with
  | none => none
  | some (c, ns) => some (lossOf c ns)
theorem big_len {rate ch coding : Nat} {l : List Int} {ns : List Note} (h : bigChk (weave (ns.length + 2) 0 ns (sndOwn rate ch coding l))) : 1000 < (sndWrite rate ch coding l ns).length := by
  obtain ⟨c, hc, h2⟩ := h
  have := flat_ge hc
  unfold sndWrite
  simp only [List.length_append]
  omega
theorem sndBytes_len (l : List Int) (coding ch : Nat) : (sndBytes l coding ch).length = l.length * (coding % 2 + 1) := by
  unfold sndBytes
  refine flat2_len _ _ _ fun i hi => ?_
  rcases Nat.mod_two_eq_zero_or_one coding with h | h
  · rw [h, show isWide coding = false by simp [isWide, h]]
    rfl
  · rw [h, show isWide coding = true by simp [isWide, h]]
    rfl
theorem write_div {s : List UInt8} {ch coding : Nat} (h : s.length % (2 * ch) = 0) : (sndBytes (sndVals s 1 ch) coding ch).length % ((coding % 2 + 1) * ch) = 0 := by
  rw [sndBytes_len, sndVals_one, List.length_map, rawU_len, if_pos rfl]
  obtain ⟨k, hk⟩ := Nat.dvd_of_mod_eq_zero h
  rw [hk, Nat.mul_assoc, Nat.mul_div_cancel_left _ (by omega : 0 < 2), show ch * k * (coding % 2 + 1) = (coding % 2 + 1) * ch * k by rw [Nat.mul_comm (ch * k), ← Nat.mul_assoc]]
  exact Nat.mul_mod_right ..
theorem write_to {rate ch coding : Nat} {s : List UInt8} {ns : List Note} {wv : Val} {r : List UInt8} (h1 : rate ≤ 65535) (h2 : 1 ≤ ch ∧ ch ≤ 2) (h3 : coding < 4) (h4 : notesOk ns.length (-1) ns = true) (h5 : ¬ bigChk (weave (ns.length + 2) 0 ns (sndOwn rate ch coding (sndVals s 1 ch))))
    (h6 : s.length % (2 * ch) = 0) (h : sndTo (sndWrite rate ch coding (sndVals s 1 ch) ns) = some (wv, r)) : ∃ p, wv = sndVal rate ch p := by
  obtain ⟨x, hx, _, hv, _⟩ := sndTo_file h
  rw [sndWrite_file h1 h2 h3 h4 (fun c hc => by
    have : ¬ 1000 < c.2.length := fun hl => h5 ⟨c, hc, hl⟩
    omega) (write_div h6)] at hx
  cases hx
  exact ⟨_, hv⟩
theorem loss_one (x : LossD) : ∀ u ∈ lossC x, u.oneCell' = true := by
  intro u hu
  simp only [lossC, List.mem_cons, List.not_mem_nil, or_false] at hu
  rcases hu with rfl | rfl <;> rfl
section
variable {V W : World}
set_option maxRecDepth 100000 in
set_option maxHeartbeats 1000000 in
theorem explain_sound (hV : Sub V W) {s : Sl} {b : List UInt8} (hs : Byt V s b) (hl : b.length ≤ 1099511627776) : Ret Try.prog 20 [s.v].toArray W (ExR W V (sndLoss b)) := by
  have H := Rel.start hV
  refine cal_of_vc tabOk Try.func20 rfl (by kernel_rfl) 35 rfl (by simp) [0, 2, 3, 4, 5, 6, 7, 15, 18, 26] ?_
  ((repeat ((conv => whnf); first | refine an ?_ | refine H.ce ?_ | refine H.db ?_ | refine ea ?_ | refine ol ?_ | (refine H.st ?_; (conv => whnf); clear H; intro w H) | refine cT ?_ | refine cF ?_ | refine cN ?_ | refine cM ?_ | refine H.da (hc1 _ _ (by rfl)) ?_ | refine H.datw hc1 (by rfl) ?_ | refine H.datl hc1 (by rfl) ?_ | refine H.da (hc2 _ _ (by rfl)) ?_ | refine H.datw hc2 (by rfl) ?_ | refine H.datl hc2 (by rfl) ?_ | refine H.lw ?_ | refine H.ll ?_)); (conv => whnf))
  ((first | refine Rel.nwD H ?_ | refine Rel.nw H ?_); clear H; intro w b3 H)
  ((repeat ((conv => whnf); first | refine an ?_ | ((first | refine H.nwD ?_ | refine H.nw ?_); clear H; intro w _ H) | refine H.ce ?_ | refine H.db ?_ | refine ea ?_ | refine ol ?_ | (refine H.st ?_; (conv => whnf); clear H; intro w H) | refine cT ?_ | refine cF ?_ | refine cN ?_ | refine cM ?_ | refine H.da (hc1 _ _ (by rfl)) ?_ | refine H.datw hc1 (by rfl) ?_ | refine H.datl hc1 (by rfl) ?_ | refine H.da (hc2 _ _ (by rfl)) ?_ | refine H.datw hc2 (by rfl) ?_ | refine H.datl hc2 (by rfl) ?_ | refine H.lw ?_ | refine H.ll ?_)); (conv => whnf))
  refine (readResidue_spec H.data hs hl).use ?_
  rintro q w ⟨V2, r, hV2, K, hres⟩
  (have hKb := K.base; replace H := H.call0 K)
  cases hr : sndRd b with
  | none =>
    rw [hr] at hres
    dsimp only at hres
    subst hres
    rw [show sndLoss b = none by rw [sndLoss, hr]]
    ((repeat ((conv => whnf); first | refine an ?_ | ((first | refine H.nwD ?_ | refine H.nw ?_); clear H; intro w _ H) | refine H.ce ?_ | refine H.db ?_ | refine ea ?_ | refine ol ?_ | (refine H.st ?_; (conv => whnf); clear H; intro w H) | refine cT ?_ | refine cF ?_ | refine cN ?_ | refine cM ?_ | refine H.da (hc1 _ _ (by rfl)) ?_ | refine H.datw hc1 (by rfl) ?_ | refine H.datl hc1 (by rfl) ?_ | refine H.da (hc2 _ _ (by rfl)) ?_ | refine H.datw hc2 (by rfl) ?_ | refine H.datl hc2 (by rfl) ?_ | refine H.lw ?_ | refine H.ll ?_)); (conv => whnf))
    refine (fault_sound H.data 6 (-1)).use ?_
    rintro q w ⟨rfl, K⟩
    (have hKb := K.base; replace H := H.call0 K)
    ((repeat ((conv => whnf); first | refine an ?_ | ((first | refine H.nwD ?_ | refine H.nw ?_); clear H; intro w _ H) | refine H.ce ?_ | refine H.db ?_ | refine ea ?_ | refine ol ?_ | (refine H.st ?_; (conv => whnf); clear H; intro w H) | refine cT ?_ | refine cF ?_ | refine cN ?_ | refine cM ?_ | refine H.da (hc1 _ _ (by rfl)) ?_ | refine H.datw hc1 (by rfl) ?_ | refine H.datl hc1 (by rfl) ?_ | refine H.da (hc2 _ _ (by rfl)) ?_ | refine H.datw hc2 (by rfl) ?_ | refine H.datl hc2 (by rfl) ?_ | refine H.lw ?_ | refine H.ll ?_)); (conv => whnf))
    exact ⟨V2, ⟨none, 0, 0⟩, hV2, H.sx, rfl⟩
  | some x =>
    obtain ⟨c, ns⟩ := x
    rw [hr] at hres
    obtain ⟨rfl, ps, hps, hpw⟩ := hres
    rw [show sndLoss b = some (lossOf c ns) by rw [sndLoss, hr]]
    have hpl := hps.len
    have hpn := hpw.len
    obtain ⟨c4, n1000, _⟩ := sndRd_some hr
    replace H := H.rowNil 62 2
    by_cases hc : c = 1
    · by_cases hn : ns.length = 0
      · have e : lossOf c ns = [] := by unfold lossOf; rw [if_neg (fun h => h hc), if_neg (fun h => h (List.eq_nil_of_length_eq_zero hn))]; rfl
        rw [e]
        subst hc
        ((repeat ((conv => whnf); first | refine an ?_ | ((first | refine H.nwD ?_ | refine H.nw ?_); clear H; intro w _ H) | refine H.ce ?_ | refine H.db ?_ | refine ea ?_ | refine ol ?_ | (refine H.st ?_; (conv => whnf); clear H; intro w H) | refine cT ?_ | refine cF ?_ | refine cN ?_ | refine cM ?_ | refine H.da (hc1 _ _ (by rfl)) ?_ | refine H.datw hc1 (by rfl) ?_ | refine H.datl hc1 (by rfl) ?_ | refine H.da (hc2 _ _ (by rfl)) ?_ | refine H.datw hc2 (by rfl) ?_ | refine H.datl hc2 (by rfl) ?_ | refine H.lw ?_ | refine H.ll ?_)); (conv => whnf))
        obtain ⟨V3, hV3, H, hr⟩ := Rel.freezeF (f := lossC) (l := []) H (fun _ => rfl) (by decide)
        exact ⟨V3, _, hV2.trans hV3, H.sx, rfl, hr⟩
      · have e : lossOf c ns = [(sOther, (ns.length : Int))] := by
          unfold lossOf
          rw [if_neg (fun h => h hc), if_pos (fun h => hn (by rw [h]; rfl))]
          rfl
        rw [e]
        subst hc
        ((repeat ((conv => whnf); first | refine an ?_ | ((first | refine H.nwD ?_ | refine H.nw ?_); clear H; intro w _ H) | refine H.ce ?_ | refine H.db ?_ | refine ea ?_ | refine ol ?_ | (refine H.st ?_; (conv => whnf); clear H; intro w H) | refine cT ?_ | refine cF ?_ | refine cN ?_ | refine cM ?_ | refine H.da (hc1 _ _ (by rfl)) ?_ | refine H.datw hc1 (by rfl) ?_ | refine H.datl hc1 (by rfl) ?_ | refine H.da (hc2 _ _ (by rfl)) ?_ | refine H.datw hc2 (by rfl) ?_ | refine H.datl hc2 (by rfl) ?_ | refine H.lw ?_ | refine H.ll ?_)); (conv => whnf))
        refine Rel.app1_0 (f := lossC) (s := ⟨none, 0, 0⟩) (l := []) (x := (sOther, (r.len : Int))) tabOk rfl rfl rfl rfl rfl (by decide) (fun _ => rfl) (loss_one _) H (by decide) (by decide) ?_
        clear H
        intro rn w H
        ((repeat ((conv => whnf); first | refine an ?_ | ((first | refine H.nwD ?_ | refine H.nw ?_); clear H; intro w _ H) | refine H.ce ?_ | refine H.db ?_ | refine ea ?_ | refine ol ?_ | (refine H.st ?_; (conv => whnf); clear H; intro w H) | refine cT ?_ | refine cF ?_ | refine cN ?_ | refine cM ?_ | refine H.da (hc1 _ _ (by rfl)) ?_ | refine H.datw hc1 (by rfl) ?_ | refine H.datl hc1 (by rfl) ?_ | refine H.da (hc2 _ _ (by rfl)) ?_ | refine H.datw hc2 (by rfl) ?_ | refine H.datl hc2 (by rfl) ?_ | refine H.lw ?_ | refine H.ll ?_)); (conv => whnf))
        obtain ⟨V3, hV3, H, hr⟩ := Rel.freezeF H (fun _ => rfl) (by decide)
        rw [hpl, hpn] at hr
        exact ⟨V3, _, hV2.trans hV3, H.sx, rfl, hr⟩
    · by_cases hn : ns.length = 0
      · have e : lossOf c ns = [(sCoding, (c : Int))] := by
          unfold lossOf
          rw [if_pos hc, if_neg (fun h => h (List.eq_nil_of_length_eq_zero hn))]
          rfl
        rw [e]
        ((repeat ((conv => whnf); first | refine an ?_ | ((first | refine H.nwD ?_ | refine H.nw ?_); clear H; intro w _ H) | refine H.ce ?_ | refine H.db ?_ | refine ea ?_ | refine ol ?_ | (refine H.st ?_; (conv => whnf); clear H; intro w H) | refine cT ?_ | refine cF ?_ | refine cN ?_ | refine cM ?_ | refine H.da (hc1 _ _ (by rfl)) ?_ | refine H.datw hc1 (by rfl) ?_ | refine H.datl hc1 (by rfl) ?_ | refine H.da (hc2 _ _ (by rfl)) ?_ | refine H.datw hc2 (by rfl) ?_ | refine H.datl hc2 (by rfl) ?_ | refine H.lw ?_ | refine H.ll ?_)); (conv => whnf))
        refine Rel.app1_0 (f := lossC) (s := ⟨none, 0, 0⟩) (l := []) (x := (sCoding, (c : Int))) tabOk rfl rfl rfl rfl rfl (by decide) (fun _ => rfl) (loss_one _) H (by decide) (by decide) ?_
        clear H
        intro rn w H
        ((repeat ((conv => whnf); first | refine an ?_ | ((first | refine H.nwD ?_ | refine H.nw ?_); clear H; intro w _ H) | refine H.ce ?_ | refine H.db ?_ | refine ea ?_ | refine ol ?_ | (refine H.st ?_; (conv => whnf); clear H; intro w H) | refine cT ?_ | refine cF ?_ | refine cN ?_ | refine cM ?_ | refine H.da (hc1 _ _ (by rfl)) ?_ | refine H.datw hc1 (by rfl) ?_ | refine H.datl hc1 (by rfl) ?_ | refine H.da (hc2 _ _ (by rfl)) ?_ | refine H.datw hc2 (by rfl) ?_ | refine H.datl hc2 (by rfl) ?_ | refine H.lw ?_ | refine H.ll ?_)); (conv => whnf))
        obtain ⟨V3, hV3, H, hr⟩ := Rel.freezeF H (fun _ => rfl) (by decide)
        exact ⟨V3, _, hV2.trans hV3, H.sx, rfl, hr⟩
      · have e : lossOf c ns = [(sCoding, (c : Int)), (sOther, (ns.length : Int))] := by
          unfold lossOf
          rw [if_pos hc, if_pos (fun h => hn (by rw [h]; rfl))]
          rfl
        rw [e]
        ((repeat ((conv => whnf); first | refine an ?_ | ((first | refine H.nwD ?_ | refine H.nw ?_); clear H; intro w _ H) | refine H.ce ?_ | refine H.db ?_ | refine ea ?_ | refine ol ?_ | (refine H.st ?_; (conv => whnf); clear H; intro w H) | refine cT ?_ | refine cF ?_ | refine cN ?_ | refine cM ?_ | refine H.da (hc1 _ _ (by rfl)) ?_ | refine H.datw hc1 (by rfl) ?_ | refine H.datl hc1 (by rfl) ?_ | refine H.da (hc2 _ _ (by rfl)) ?_ | refine H.datw hc2 (by rfl) ?_ | refine H.datl hc2 (by rfl) ?_ | refine H.lw ?_ | refine H.ll ?_)); (conv => whnf))
        refine Rel.app1_0 (f := lossC) (s := ⟨none, 0, 0⟩) (l := []) (x := (sCoding, (c : Int))) tabOk rfl rfl rfl rfl rfl (by decide) (fun _ => rfl) (loss_one _) H (by decide) (by decide) ?_
        clear H
        intro rn w H
        ((repeat ((conv => whnf); first | refine an ?_ | ((first | refine H.nwD ?_ | refine H.nw ?_); clear H; intro w _ H) | refine H.ce ?_ | refine H.db ?_ | refine ea ?_ | refine ol ?_ | (refine H.st ?_; (conv => whnf); clear H; intro w H) | refine cT ?_ | refine cF ?_ | refine cN ?_ | refine cM ?_ | refine H.da (hc1 _ _ (by rfl)) ?_ | refine H.datw hc1 (by rfl) ?_ | refine H.datl hc1 (by rfl) ?_ | refine H.da (hc2 _ _ (by rfl)) ?_ | refine H.datw hc2 (by rfl) ?_ | refine H.datl hc2 (by rfl) ?_ | refine H.lw ?_ | refine H.ll ?_)); (conv => whnf))
        refine Rel.app1_0 (f := lossC) (s := rn) (l := [(sCoding, (c : Int))]) (x := (sOther, (r.len : Int))) tabOk rfl rfl rfl rfl rfl (by decide) (fun _ => rfl) (loss_one _) H (by show (1 + 1) * 24 ≤ 140737488355328; decide) (by show 1 + 1 ≤ 4611686018427387904; decide) ?_
        clear H
        intro rn w H
        ((repeat ((conv => whnf); first | refine an ?_ | ((first | refine H.nwD ?_ | refine H.nw ?_); clear H; intro w _ H) | refine H.ce ?_ | refine H.db ?_ | refine ea ?_ | refine ol ?_ | (refine H.st ?_; (conv => whnf); clear H; intro w H) | refine cT ?_ | refine cF ?_ | refine cN ?_ | refine cM ?_ | refine H.da (hc1 _ _ (by rfl)) ?_ | refine H.datw hc1 (by rfl) ?_ | refine H.datl hc1 (by rfl) ?_ | refine H.da (hc2 _ _ (by rfl)) ?_ | refine H.datw hc2 (by rfl) ?_ | refine H.datl hc2 (by rfl) ?_ | refine H.lw ?_ | refine H.ll ?_)); (conv => whnf))
        obtain ⟨V3, hV3, H, hr⟩ := Rel.freezeF H (fun _ => rfl) (by decide)
        rw [hpl, hpn] at hr
        exact ⟨V3, _, hV2.trans hV3, H.sx, rfl, hr⟩
set_option maxRecDepth 100000 in
set_option maxHeartbeats 1000000 in
theorem from_sound (hV : Sub V W) {h : VH} {v : Val} (hv : ValAt V h v) (hB : VB 1048576 v) {s : Sl} {b : List UInt8} (hs : Byt V s b) (hl : b.length ≤ 1099511627776) : Ret Try.prog 30 [valV h, s.v].toArray W (FrR W V (frRes v (sndShape v).isSome (sndMake v b))) := by
  have H := Rel.start hV
  have hv0 := hv
  have hpl := hv.plen
  obtain ⟨k, n, bs, ss, pl⟩ := h
  dsimp only at hpl
  change Ret Try.prog 30 [.agg [iv k, iv n, bs.v, ss.v, pl.v].toArray, s.v].toArray W _
  refine cal_of_vc tabOk Try.func30 rfl (by kernel_rfl) 90 rfl (by simp) [0, 1, 2, 4, 5, 6, 7, 8, 9, 10, 11, 12, 13, 14, 15, 16, 17, 22, 32, 42, 56, 86] ?_
  ((repeat ((conv => whnf); first | refine an ?_ | refine H.ce ?_ | refine H.db ?_ | refine ea ?_ | refine ol ?_ | (refine H.st ?_; (conv => whnf); clear H; intro w H) | refine cT ?_ | refine cF ?_ | refine cN ?_ | refine cM ?_ | refine H.da (hc1 _ _ (by rfl)) ?_ | refine H.datw hc1 (by rfl) ?_ | refine H.datl hc1 (by rfl) ?_ | refine H.da (hc2 _ _ (by rfl)) ?_ | refine H.datw hc2 (by rfl) ?_ | refine H.datl hc2 (by rfl) ?_ | refine H.lw ?_ | refine H.ll ?_)); (conv => whnf))
  ((first | refine Rel.nwD H ?_ | refine Rel.nw H ?_); clear H; intro w b2 H)
  ((repeat ((conv => whnf); first | refine an ?_ | refine H.ce ?_ | refine H.db ?_ | refine ea ?_ | refine ol ?_ | (refine H.st ?_; (conv => whnf); clear H; intro w H) | refine cT ?_ | refine cF ?_ | refine cN ?_ | refine cM ?_ | refine H.da (hc1 _ _ (by rfl)) ?_ | refine H.datw hc1 (by rfl) ?_ | refine H.datl hc1 (by rfl) ?_ | refine H.da (hc2 _ _ (by rfl)) ?_ | refine H.datw hc2 (by rfl) ?_ | refine H.datl hc2 (by rfl) ?_ | refine H.lw ?_ | refine H.ll ?_)); (conv => whnf))
  ((first | refine Rel.nwD H ?_ | refine Rel.nw H ?_); clear H; intro w b5 H)
  ((repeat ((conv => whnf); first | refine an ?_ | ((first | refine H.nwD ?_ | refine H.nw ?_); clear H; intro w _ H) | refine H.ce ?_ | refine H.db ?_ | refine ea ?_ | refine ol ?_ | (refine H.st ?_; (conv => whnf); clear H; intro w H) | refine cT ?_ | refine cF ?_ | refine cN ?_ | refine cM ?_ | refine H.da (hc1 _ _ (by rfl)) ?_ | refine H.datw hc1 (by rfl) ?_ | refine H.datl hc1 (by rfl) ?_ | refine H.da (hc2 _ _ (by rfl)) ?_ | refine H.datw hc2 (by rfl) ?_ | refine H.datl hc2 (by rfl) ?_ | refine H.lw ?_ | refine H.ll ?_)); (conv => whnf))
  refine (validate_value H.data hv0 hB).use ?_
  rintro q w ⟨rfl, K⟩
  (have hKb := K.base; replace H := H.call0 K)
  ((repeat ((conv => whnf); first | refine an ?_ | refine H.ce ?_ | refine H.db ?_ | refine ea ?_ | refine ol ?_ | (refine H.st ?_; (conv => whnf); clear H; intro w H) | refine cT ?_ | refine cF ?_ | refine cN ?_ | refine cM ?_ | refine H.da (hc1 _ _ (by rfl)) ?_ | refine H.datw hc1 (by rfl) ?_ | refine H.datl hc1 (by rfl) ?_ | refine H.da (hc2 _ _ (by rfl)) ?_ | refine H.datw hc2 (by rfl) ?_ | refine H.datl hc2 (by rfl) ?_ | refine H.lw ?_ | refine H.ll ?_)); (conv => whnf))
  ((first | refine Rel.nwD H ?_ | refine Rel.nw H ?_); clear H; intro w b6 H)
  by_cases hvf : (vfault v).1 = 0
  rotate_left
  · have e : frRes v (sndShape v).isSome (sndMake v b) = ([], vfault v) := by unfold frRes; rw [if_pos hvf]
    rw [e]
    ((repeat ((conv => whnf); first | refine an ?_ | ((first | refine H.nwD ?_ | refine H.nw ?_); clear H; intro w _ H) | refine H.ce ?_ | refine H.db ?_ | refine ea ?_ | refine ol ?_ | (refine H.st ?_; (conv => whnf); clear H; intro w H) | refine cT ?_ | refine cF ?_ | refine cN ?_ | refine cM ?_ | refine H.da (hc1 _ _ (by rfl)) ?_ | refine H.datw hc1 (by rfl) ?_ | refine H.datl hc1 (by rfl) ?_ | refine H.da (hc2 _ _ (by rfl)) ?_ | refine H.datw hc2 (by rfl) ?_ | refine H.datl hc2 (by rfl) ?_ | refine H.lw ?_ | refine H.ll ?_)); (conv => whnf))
    ((first | refine draw_vc (id := 3) tabOk mixed [] [0, 1, 2] (by kernel_rfl) ?_ | refine draw_vc (id := 10) tabOk mixed [] [0, 1, 2] (by kernel_rfl) ?_ | refine draw_vc (id := 13) tabOk mixed [] [0, 1, 2] (by kernel_rfl) ?_ | refine draw_vc (id := 15) tabOk mixed [] [0, 1, 2, 3, 4, 5, 6, 7, 8, 9, 10, 11, 12, 13, 14, 15, 16, 17, 18, 19, 20, 21, 22] (by kernel_rfl) ?_ | refine draw_vc (id := 16) tabOk mixed [] [0, 1, 2] (by kernel_rfl) ?_); intro w hdw; replace H := Rel.ext H hdw.ext)
    ((repeat ((conv => whnf); first | refine an ?_ | ((first | refine H.nwD ?_ | refine H.nw ?_); clear H; intro w _ H) | refine H.ce ?_ | refine H.db ?_ | refine ea ?_ | refine ol ?_ | (refine H.st ?_; (conv => whnf); clear H; intro w H) | refine cT ?_ | refine cF ?_ | refine cN ?_ | refine cM ?_ | refine H.da (hc1 _ _ (by rfl)) ?_ | refine H.datw hc1 (by rfl) ?_ | refine H.datl hc1 (by rfl) ?_ | refine H.da (hc2 _ _ (by rfl)) ?_ | refine H.datw hc2 (by rfl) ?_ | refine H.datl hc2 (by rfl) ?_ | refine H.lw ?_ | refine H.ll ?_)); (conv => whnf))
    exact ⟨V, ⟨none, 0, 0⟩, Sub.refl _, H.sx, rfl, SlF.nil _ _⟩
  have hzz := vfault_zz hvf
  rw [hzz]
  ((repeat ((conv => whnf); first | refine an ?_ | ((first | refine H.nwD ?_ | refine H.nw ?_); clear H; intro w _ H) | refine H.ce ?_ | refine H.db ?_ | refine ea ?_ | refine ol ?_ | (refine H.st ?_; (conv => whnf); clear H; intro w H) | refine cT ?_ | refine cF ?_ | refine cN ?_ | refine cM ?_ | refine H.da (hc1 _ _ (by rfl)) ?_ | refine H.datw hc1 (by rfl) ?_ | refine H.datl hc1 (by rfl) ?_ | refine H.da (hc2 _ _ (by rfl)) ?_ | refine H.datw hc2 (by rfl) ?_ | refine H.datl hc2 (by rfl) ?_ | refine H.lw ?_ | refine H.ll ?_)); (conv => whnf))
  refine (parts_spec H.data hv0 hB hvf).use ?_
  rintro q w ⟨V2, rs, hV2, K, hres⟩
  (have hKb := K.base; replace H := H.call0 K)
  cases hsh : sndShape v with
  | none =>
    rw [hsh] at hres
    dsimp only at hres
    subst hres
    have e : frRes v (none : Option (Nat × Nat × List UInt8)).isSome (sndMake v b) = ([], 13, 0) := by unfold frRes; rw [if_neg (fun h => h hvf)]; rfl
    rw [e]
    ((repeat ((conv => whnf); first | refine an ?_ | ((first | refine H.nwD ?_ | refine H.nw ?_); clear H; intro w _ H) | refine H.ce ?_ | refine H.db ?_ | refine ea ?_ | refine ol ?_ | (refine H.st ?_; (conv => whnf); clear H; intro w H) | refine cT ?_ | refine cF ?_ | refine cN ?_ | refine cM ?_ | refine H.da (hc1 _ _ (by rfl)) ?_ | refine H.datw hc1 (by rfl) ?_ | refine H.datl hc1 (by rfl) ?_ | refine H.da (hc2 _ _ (by rfl)) ?_ | refine H.datw hc2 (by rfl) ?_ | refine H.datl hc2 (by rfl) ?_ | refine H.lw ?_ | refine H.ll ?_)); (conv => whnf))
    refine (fault_sound H.data 13 0).use ?_
    rintro q w ⟨rfl, K⟩
    (have hKb := K.base; replace H := H.call0 K)
    ((repeat ((conv => whnf); first | refine an ?_ | ((first | refine H.nwD ?_ | refine H.nw ?_); clear H; intro w _ H) | refine H.ce ?_ | refine H.db ?_ | refine ea ?_ | refine ol ?_ | (refine H.st ?_; (conv => whnf); clear H; intro w H) | refine cT ?_ | refine cF ?_ | refine cN ?_ | refine cM ?_ | refine H.da (hc1 _ _ (by rfl)) ?_ | refine H.datw hc1 (by rfl) ?_ | refine H.datl hc1 (by rfl) ?_ | refine H.da (hc2 _ _ (by rfl)) ?_ | refine H.datw hc2 (by rfl) ?_ | refine H.datl hc2 (by rfl) ?_ | refine H.lw ?_ | refine H.ll ?_)); (conv => whnf))
    exact ⟨V2, ⟨none, 0, 0⟩, hV2, H.sx, rfl, SlF.nil _ _⟩
  | some x =>
    obtain ⟨rate, ch, sb⟩ := x
    rw [hsh] at hres
    obtain ⟨rfl, hsm⟩ := hres
    obtain ⟨hve, hra, hch, hsd⟩ := sndShape_some hvf hsh
    have hsbl : sb.length ≤ 1048576 := by
      have := (hB.part (bytV sb) (by rw [hve]; simp)).bytes
      exact this
    have hsml : (sndVals sb 1 ch).length ≤ 1000000 := by
      rw [sndVals_one, List.length_map, rawU_len, if_pos rfl]
      omega
    have badE : sndMake v b = none → frRes v (some (rate, ch, sb)).isSome (sndMake v b) = ([], 6, -2) := fun h => by
      rw [h]
      unfold frRes
      rw [if_neg (fun h => h hvf)]
      rfl
    ((repeat ((conv => whnf); first | refine an ?_ | ((first | refine H.nwD ?_ | refine H.nw ?_); clear H; intro w _ H) | refine H.ce ?_ | refine H.db ?_ | refine ea ?_ | refine ol ?_ | (refine H.st ?_; (conv => whnf); clear H; intro w H) | refine cT ?_ | refine cF ?_ | refine cN ?_ | refine cM ?_ | refine H.da (hc1 _ _ (by rfl)) ?_ | refine H.datw hc1 (by rfl) ?_ | refine H.datl hc1 (by rfl) ?_ | refine H.da (hc2 _ _ (by rfl)) ?_ | refine H.datw hc2 (by rfl) ?_ | refine H.datl hc2 (by rfl) ?_ | refine H.lw ?_ | refine H.ll ?_)); (conv => whnf))
    refine (fault_sound H.data 6 (-2)).use ?_
    rintro q w ⟨rfl, K⟩
    (have hKb := K.base; replace H := H.call0 K)
    ((repeat ((conv => whnf); first | refine an ?_ | refine H.ce ?_ | refine H.db ?_ | refine ea ?_ | refine ol ?_ | (refine H.st ?_; (conv => whnf); clear H; intro w H) | refine cT ?_ | refine cF ?_ | refine cN ?_ | refine cM ?_ | refine H.da (hc1 _ _ (by rfl)) ?_ | refine H.datw hc1 (by rfl) ?_ | refine H.datl hc1 (by rfl) ?_ | refine H.da (hc2 _ _ (by rfl)) ?_ | refine H.datw hc2 (by rfl) ?_ | refine H.datl hc2 (by rfl) ?_ | refine H.lw ?_ | refine H.ll ?_)); (conv => whnf))
    ((first | refine Rel.nwD H ?_ | refine Rel.nw H ?_); clear H; intro w b11 H)
    ((repeat ((conv => whnf); first | refine an ?_ | ((first | refine H.nwD ?_ | refine H.nw ?_); clear H; intro w _ H) | refine H.ce ?_ | refine H.db ?_ | refine ea ?_ | refine ol ?_ | (refine H.st ?_; (conv => whnf); clear H; intro w H) | refine cT ?_ | refine cF ?_ | refine cN ?_ | refine cM ?_ | refine H.da (hc1 _ _ (by rfl)) ?_ | refine H.datw hc1 (by rfl) ?_ | refine H.datl hc1 (by rfl) ?_ | refine H.da (hc2 _ _ (by rfl)) ?_ | refine H.datw hc2 (by rfl) ?_ | refine H.datl hc2 (by rfl) ?_ | refine H.lw ?_ | refine H.ll ?_)); (conv => whnf))
    refine (readResidue_spec H.data (hs.up hV2) hl).use ?_
    rintro q w ⟨V3, rn, hV3, K, hres⟩
    (have hKb := K.base; replace H := H.call0 K)
    cases hr : sndRd b with
    | none =>
      rw [hr] at hres
      dsimp only at hres
      subst hres
      have e := badE (by unfold sndMake; rw [hsh, hr])
      rw [e]
      ((repeat ((conv => whnf); first | refine an ?_ | ((first | refine H.nwD ?_ | refine H.nw ?_); clear H; intro w _ H) | refine H.ce ?_ | refine H.db ?_ | refine ea ?_ | refine ol ?_ | (refine H.st ?_; (conv => whnf); clear H; intro w H) | refine cT ?_ | refine cF ?_ | refine cN ?_ | refine cM ?_ | refine H.da (hc1 _ _ (by rfl)) ?_ | refine H.datw hc1 (by rfl) ?_ | refine H.datl hc1 (by rfl) ?_ | refine H.da (hc2 _ _ (by rfl)) ?_ | refine H.datw hc2 (by rfl) ?_ | refine H.datl hc2 (by rfl) ?_ | refine H.lw ?_ | refine H.ll ?_)); (conv => whnf))
      ((first | refine draw_vc (id := 3) tabOk mixed [] [0, 1, 2] (by kernel_rfl) ?_ | refine draw_vc (id := 10) tabOk mixed [] [0, 1, 2] (by kernel_rfl) ?_ | refine draw_vc (id := 13) tabOk mixed [] [0, 1, 2] (by kernel_rfl) ?_ | refine draw_vc (id := 15) tabOk mixed [] [0, 1, 2, 3, 4, 5, 6, 7, 8, 9, 10, 11, 12, 13, 14, 15, 16, 17, 18, 19, 20, 21, 22] (by kernel_rfl) ?_ | refine draw_vc (id := 16) tabOk mixed [] [0, 1, 2] (by kernel_rfl) ?_); intro w hdw; replace H := Rel.ext H hdw.ext)
      ((repeat ((conv => whnf); first | refine an ?_ | ((first | refine H.nwD ?_ | refine H.nw ?_); clear H; intro w _ H) | refine H.ce ?_ | refine H.db ?_ | refine ea ?_ | refine ol ?_ | (refine H.st ?_; (conv => whnf); clear H; intro w H) | refine cT ?_ | refine cF ?_ | refine cN ?_ | refine cM ?_ | refine H.da (hc1 _ _ (by rfl)) ?_ | refine H.datw hc1 (by rfl) ?_ | refine H.datl hc1 (by rfl) ?_ | refine H.da (hc2 _ _ (by rfl)) ?_ | refine H.datw hc2 (by rfl) ?_ | refine H.datl hc2 (by rfl) ?_ | refine H.lw ?_ | refine H.ll ?_)); (conv => whnf))
      exact ⟨V3, ⟨none, 0, 0⟩, hV2.trans hV3, H.sx, rfl, SlF.nil _ _⟩
    | some x =>
      obtain ⟨c, ns⟩ := x
      rw [hr] at hres
      obtain ⟨rfl, hns⟩ := hres
      obtain ⟨c4, n1000, hno, _, _⟩ := sndRd_some hr
      have hmk : sndMake v b = if (sndWrite rate ch c (sndVals sb 1 ch) ns).length ≤ 1000 ∧ sndTo (sndWrite rate ch c (sndVals sb 1 ch) ns) = some (v, b) then some (sndWrite rate ch c (sndVals sb 1 ch) ns) else none := by
        unfold sndMake
        rw [hsh, hr]
      ((repeat ((conv => whnf); first | refine an ?_ | ((first | refine H.nwD ?_ | refine H.nw ?_); clear H; intro w _ H) | refine H.ce ?_ | refine H.db ?_ | refine ea ?_ | refine ol ?_ | (refine H.st ?_; (conv => whnf); clear H; intro w H) | refine cT ?_ | refine cF ?_ | refine cN ?_ | refine cM ?_ | refine H.da (hc1 _ _ (by rfl)) ?_ | refine H.datw hc1 (by rfl) ?_ | refine H.datl hc1 (by rfl) ?_ | refine H.da (hc2 _ _ (by rfl)) ?_ | refine H.datw hc2 (by rfl) ?_ | refine H.datl hc2 (by rfl) ?_ | refine H.lw ?_ | refine H.ll ?_)); (conv => whnf))
      refine (write_spec H.data hra c4 hch (hsm.up hV3) hsml sndVals_range hns n1000 hno).use ?_
      rintro q w ⟨V4, ro, hV4, K, hw⟩
      (have hKb := K.base; replace H := H.call0 K)
      rcases hw with ⟨hbig, rfl⟩ | ⟨hbig, rfl, ho⟩
      · have e := badE (by rw [hmk, if_neg]; intro h; have := big_len hbig; omega)
        rw [e]
        ((repeat ((conv => whnf); first | refine an ?_ | ((first | refine H.nwD ?_ | refine H.nw ?_); clear H; intro w _ H) | refine H.ce ?_ | refine H.db ?_ | refine ea ?_ | refine ol ?_ | (refine H.st ?_; (conv => whnf); clear H; intro w H) | refine cT ?_ | refine cF ?_ | refine cN ?_ | refine cM ?_ | refine H.da (hc1 _ _ (by rfl)) ?_ | refine H.datw hc1 (by rfl) ?_ | refine H.datl hc1 (by rfl) ?_ | refine H.da (hc2 _ _ (by rfl)) ?_ | refine H.datw hc2 (by rfl) ?_ | refine H.datl hc2 (by rfl) ?_ | refine H.lw ?_ | refine H.ll ?_)); (conv => whnf))
        ((first | refine draw_vc (id := 3) tabOk mixed [] [0, 1, 2] (by kernel_rfl) ?_ | refine draw_vc (id := 10) tabOk mixed [] [0, 1, 2] (by kernel_rfl) ?_ | refine draw_vc (id := 13) tabOk mixed [] [0, 1, 2] (by kernel_rfl) ?_ | refine draw_vc (id := 15) tabOk mixed [] [0, 1, 2, 3, 4, 5, 6, 7, 8, 9, 10, 11, 12, 13, 14, 15, 16, 17, 18, 19, 20, 21, 22] (by kernel_rfl) ?_ | refine draw_vc (id := 16) tabOk mixed [] [0, 1, 2] (by kernel_rfl) ?_); intro w hdw; replace H := Rel.ext H hdw.ext)
        ((repeat ((conv => whnf); first | refine an ?_ | ((first | refine H.nwD ?_ | refine H.nw ?_); clear H; intro w _ H) | refine H.ce ?_ | refine H.db ?_ | refine ea ?_ | refine ol ?_ | (refine H.st ?_; (conv => whnf); clear H; intro w H) | refine cT ?_ | refine cF ?_ | refine cN ?_ | refine cM ?_ | refine H.da (hc1 _ _ (by rfl)) ?_ | refine H.datw hc1 (by rfl) ?_ | refine H.datl hc1 (by rfl) ?_ | refine H.da (hc2 _ _ (by rfl)) ?_ | refine H.datw hc2 (by rfl) ?_ | refine H.datl hc2 (by rfl) ?_ | refine H.lw ?_ | refine H.ll ?_)); (conv => whnf))
        exact ⟨V4, ⟨none, 0, 0⟩, (hV2.trans hV3).trans hV4, H.sx, rfl, SlF.nil _ _⟩
      obtain ⟨O, hO⟩ : ∃ O, O = sndWrite rate ch c (sndVals sb 1 ch) ns := ⟨_, rfl⟩
      rw [← hO] at ho hmk
      have hOl : O.length ≤ 1099511627776 := by
        have hlen : (weave (ns.length + 2) 0 ns (sndOwn rate ch c (sndVals sb 1 ch))).length = ns.length + 2 := weave_len ..
        have := flat_putChk_le (l := weave (ns.length + 2) 0 ns (sndOwn rate ch c (sndVals sb 1 ch))) fun x hx => Decidable.byContradiction fun h => hbig ⟨x, hx, by omega⟩
        have h2 := Nat.mul_le_mul_right 1003 (show ns.length + 2 ≤ 1002 by omega)
        rw [hO]
        unfold sndWrite
        simp only [List.length_append, List.length_cons, List.length_nil]
        rw [hlen] at this
        omega
      ((repeat ((conv => whnf); first | refine an ?_ | ((first | refine H.nwD ?_ | refine H.nw ?_); clear H; intro w _ H) | refine H.ce ?_ | refine H.db ?_ | refine ea ?_ | refine ol ?_ | (refine H.st ?_; (conv => whnf); clear H; intro w H) | refine cT ?_ | refine cF ?_ | refine cN ?_ | refine cM ?_ | refine H.da (hc1 _ _ (by rfl)) ?_ | refine H.datw hc1 (by rfl) ?_ | refine H.datl hc1 (by rfl) ?_ | refine H.da (hc2 _ _ (by rfl)) ?_ | refine H.datw hc2 (by rfl) ?_ | refine H.datl hc2 (by rfl) ?_ | refine H.lw ?_ | refine H.ll ?_)); (conv => whnf))
      refine (to_sound H.data ho hOl).use ?_
      rintro q w ⟨V5, hh, rr, hV5, K, rfl, hvv, hrr⟩
      (have hKb := K.base; replace H := H.call0 K)
      have hV25 := ((hV2.trans hV3).trans hV4).trans hV5
      by_cases hO1 : 1000 < O.length
      · have et : toRes (sndTo O) O.length = ⟨zeroV, [], 3, -1⟩ := by unfold toRes; rw [if_pos hO1]
        rw [et]
        have e := badE (by rw [hmk, if_neg]; intro h; omega)
        rw [e]
        ((repeat ((conv => whnf); first | refine an ?_ | refine H.ce ?_ | refine H.db ?_ | refine ea ?_ | refine ol ?_ | (refine H.st ?_; (conv => whnf); clear H; intro w H) | refine cT ?_ | refine cF ?_ | refine cN ?_ | refine cM ?_ | refine H.da (hc1 _ _ (by rfl)) ?_ | refine H.datw hc1 (by rfl) ?_ | refine H.datl hc1 (by rfl) ?_ | refine H.da (hc2 _ _ (by rfl)) ?_ | refine H.datw hc2 (by rfl) ?_ | refine H.datl hc2 (by rfl) ?_ | refine H.lw ?_ | refine H.ll ?_)); (conv => whnf))
        ((first | refine Rel.nwD H ?_ | refine Rel.nw H ?_); clear H; intro w b15 H)
        ((repeat ((conv => whnf); first | refine an ?_ | refine H.ce ?_ | refine H.db ?_ | refine ea ?_ | refine ol ?_ | (refine H.st ?_; (conv => whnf); clear H; intro w H) | refine cT ?_ | refine cF ?_ | refine cN ?_ | refine cM ?_ | refine H.da (hc1 _ _ (by rfl)) ?_ | refine H.datw hc1 (by rfl) ?_ | refine H.datl hc1 (by rfl) ?_ | refine H.da (hc2 _ _ (by rfl)) ?_ | refine H.datw hc2 (by rfl) ?_ | refine H.datl hc2 (by rfl) ?_ | refine H.lw ?_ | refine H.ll ?_)); (conv => whnf))
        ((first | refine Rel.nwD H ?_ | refine Rel.nw H ?_); clear H; intro w b17 H)
        ((repeat ((conv => whnf); first | refine an ?_ | ((first | refine H.nwD ?_ | refine H.nw ?_); clear H; intro w _ H) | refine H.ce ?_ | refine H.db ?_ | refine ea ?_ | refine ol ?_ | (refine H.st ?_; (conv => whnf); clear H; intro w H) | refine cT ?_ | refine cF ?_ | refine cN ?_ | refine cM ?_ | refine H.da (hc1 _ _ (by rfl)) ?_ | refine H.datw hc1 (by rfl) ?_ | refine H.datl hc1 (by rfl) ?_ | refine H.da (hc2 _ _ (by rfl)) ?_ | refine H.datw hc2 (by rfl) ?_ | refine H.datl hc2 (by rfl) ?_ | refine H.lw ?_ | refine H.ll ?_)); (conv => whnf))
        ((first | refine draw_vc (id := 3) tabOk mixed [] [0, 1, 2] (by kernel_rfl) ?_ | refine draw_vc (id := 10) tabOk mixed [] [0, 1, 2] (by kernel_rfl) ?_ | refine draw_vc (id := 13) tabOk mixed [] [0, 1, 2] (by kernel_rfl) ?_ | refine draw_vc (id := 15) tabOk mixed [] [0, 1, 2, 3, 4, 5, 6, 7, 8, 9, 10, 11, 12, 13, 14, 15, 16, 17, 18, 19, 20, 21, 22] (by kernel_rfl) ?_ | refine draw_vc (id := 16) tabOk mixed [] [0, 1, 2] (by kernel_rfl) ?_); intro w hdw; replace H := Rel.ext H hdw.ext)
        ((repeat ((conv => whnf); first | refine an ?_ | ((first | refine H.nwD ?_ | refine H.nw ?_); clear H; intro w _ H) | refine H.ce ?_ | refine H.db ?_ | refine ea ?_ | refine ol ?_ | (refine H.st ?_; (conv => whnf); clear H; intro w H) | refine cT ?_ | refine cF ?_ | refine cN ?_ | refine cM ?_ | refine H.da (hc1 _ _ (by rfl)) ?_ | refine H.datw hc1 (by rfl) ?_ | refine H.datl hc1 (by rfl) ?_ | refine H.da (hc2 _ _ (by rfl)) ?_ | refine H.datw hc2 (by rfl) ?_ | refine H.datl hc2 (by rfl) ?_ | refine H.lw ?_ | refine H.ll ?_)); (conv => whnf))
        ((first | refine draw_vc (id := 3) tabOk mixed [] [0, 1, 2] (by kernel_rfl) ?_ | refine draw_vc (id := 10) tabOk mixed [] [0, 1, 2] (by kernel_rfl) ?_ | refine draw_vc (id := 13) tabOk mixed [] [0, 1, 2] (by kernel_rfl) ?_ | refine draw_vc (id := 15) tabOk mixed [] [0, 1, 2, 3, 4, 5, 6, 7, 8, 9, 10, 11, 12, 13, 14, 15, 16, 17, 18, 19, 20, 21, 22] (by kernel_rfl) ?_ | refine draw_vc (id := 16) tabOk mixed [] [0, 1, 2] (by kernel_rfl) ?_); intro w hdw; replace H := Rel.ext H hdw.ext)
        ((repeat ((conv => whnf); first | refine an ?_ | ((first | refine H.nwD ?_ | refine H.nw ?_); clear H; intro w _ H) | refine H.ce ?_ | refine H.db ?_ | refine ea ?_ | refine ol ?_ | (refine H.st ?_; (conv => whnf); clear H; intro w H) | refine cT ?_ | refine cF ?_ | refine cN ?_ | refine cM ?_ | refine H.da (hc1 _ _ (by rfl)) ?_ | refine H.datw hc1 (by rfl) ?_ | refine H.datl hc1 (by rfl) ?_ | refine H.da (hc2 _ _ (by rfl)) ?_ | refine H.datw hc2 (by rfl) ?_ | refine H.datl hc2 (by rfl) ?_ | refine H.lw ?_ | refine H.ll ?_)); (conv => whnf))
        exact ⟨V5, ⟨none, 0, 0⟩, hV25, H.sx, rfl, SlF.nil _ _⟩
      cases hto : sndTo O with
      | none =>
        rw [hto] at hvv hrr
        have et : toRes none O.length = ⟨zeroV, [], 21, -1⟩ := by unfold toRes; rw [if_neg hO1]
        rw [et]
        have e := badE (by rw [hmk, if_neg]; intro h; rw [hto] at h; cases h.2)
        rw [e]
        ((repeat ((conv => whnf); first | refine an ?_ | refine H.ce ?_ | refine H.db ?_ | refine ea ?_ | refine ol ?_ | (refine H.st ?_; (conv => whnf); clear H; intro w H) | refine cT ?_ | refine cF ?_ | refine cN ?_ | refine cM ?_ | refine H.da (hc1 _ _ (by rfl)) ?_ | refine H.datw hc1 (by rfl) ?_ | refine H.datl hc1 (by rfl) ?_ | refine H.da (hc2 _ _ (by rfl)) ?_ | refine H.datw hc2 (by rfl) ?_ | refine H.datl hc2 (by rfl) ?_ | refine H.lw ?_ | refine H.ll ?_)); (conv => whnf))
        ((first | refine Rel.nwD H ?_ | refine Rel.nw H ?_); clear H; intro w b15 H)
        ((repeat ((conv => whnf); first | refine an ?_ | refine H.ce ?_ | refine H.db ?_ | refine ea ?_ | refine ol ?_ | (refine H.st ?_; (conv => whnf); clear H; intro w H) | refine cT ?_ | refine cF ?_ | refine cN ?_ | refine cM ?_ | refine H.da (hc1 _ _ (by rfl)) ?_ | refine H.datw hc1 (by rfl) ?_ | refine H.datl hc1 (by rfl) ?_ | refine H.da (hc2 _ _ (by rfl)) ?_ | refine H.datw hc2 (by rfl) ?_ | refine H.datl hc2 (by rfl) ?_ | refine H.lw ?_ | refine H.ll ?_)); (conv => whnf))
        ((first | refine Rel.nwD H ?_ | refine Rel.nw H ?_); clear H; intro w b17 H)
        ((repeat ((conv => whnf); first | refine an ?_ | ((first | refine H.nwD ?_ | refine H.nw ?_); clear H; intro w _ H) | refine H.ce ?_ | refine H.db ?_ | refine ea ?_ | refine ol ?_ | (refine H.st ?_; (conv => whnf); clear H; intro w H) | refine cT ?_ | refine cF ?_ | refine cN ?_ | refine cM ?_ | refine H.da (hc1 _ _ (by rfl)) ?_ | refine H.datw hc1 (by rfl) ?_ | refine H.datl hc1 (by rfl) ?_ | refine H.da (hc2 _ _ (by rfl)) ?_ | refine H.datw hc2 (by rfl) ?_ | refine H.datl hc2 (by rfl) ?_ | refine H.lw ?_ | refine H.ll ?_)); (conv => whnf))
        ((first | refine draw_vc (id := 3) tabOk mixed [] [0, 1, 2] (by kernel_rfl) ?_ | refine draw_vc (id := 10) tabOk mixed [] [0, 1, 2] (by kernel_rfl) ?_ | refine draw_vc (id := 13) tabOk mixed [] [0, 1, 2] (by kernel_rfl) ?_ | refine draw_vc (id := 15) tabOk mixed [] [0, 1, 2, 3, 4, 5, 6, 7, 8, 9, 10, 11, 12, 13, 14, 15, 16, 17, 18, 19, 20, 21, 22] (by kernel_rfl) ?_ | refine draw_vc (id := 16) tabOk mixed [] [0, 1, 2] (by kernel_rfl) ?_); intro w hdw; replace H := Rel.ext H hdw.ext)
        ((repeat ((conv => whnf); first | refine an ?_ | ((first | refine H.nwD ?_ | refine H.nw ?_); clear H; intro w _ H) | refine H.ce ?_ | refine H.db ?_ | refine ea ?_ | refine ol ?_ | (refine H.st ?_; (conv => whnf); clear H; intro w H) | refine cT ?_ | refine cF ?_ | refine cN ?_ | refine cM ?_ | refine H.da (hc1 _ _ (by rfl)) ?_ | refine H.datw hc1 (by rfl) ?_ | refine H.datl hc1 (by rfl) ?_ | refine H.da (hc2 _ _ (by rfl)) ?_ | refine H.datw hc2 (by rfl) ?_ | refine H.datl hc2 (by rfl) ?_ | refine H.lw ?_ | refine H.ll ?_)); (conv => whnf))
        ((first | refine draw_vc (id := 3) tabOk mixed [] [0, 1, 2] (by kernel_rfl) ?_ | refine draw_vc (id := 10) tabOk mixed [] [0, 1, 2] (by kernel_rfl) ?_ | refine draw_vc (id := 13) tabOk mixed [] [0, 1, 2] (by kernel_rfl) ?_ | refine draw_vc (id := 15) tabOk mixed [] [0, 1, 2, 3, 4, 5, 6, 7, 8, 9, 10, 11, 12, 13, 14, 15, 16, 17, 18, 19, 20, 21, 22] (by kernel_rfl) ?_ | refine draw_vc (id := 16) tabOk mixed [] [0, 1, 2] (by kernel_rfl) ?_); intro w hdw; replace H := Rel.ext H hdw.ext)
        ((repeat ((conv => whnf); first | refine an ?_ | ((first | refine H.nwD ?_ | refine H.nw ?_); clear H; intro w _ H) | refine H.ce ?_ | refine H.db ?_ | refine ea ?_ | refine ol ?_ | (refine H.st ?_; (conv => whnf); clear H; intro w H) | refine cT ?_ | refine cF ?_ | refine cN ?_ | refine cM ?_ | refine H.da (hc1 _ _ (by rfl)) ?_ | refine H.datw hc1 (by rfl) ?_ | refine H.datl hc1 (by rfl) ?_ | refine H.da (hc2 _ _ (by rfl)) ?_ | refine H.datw hc2 (by rfl) ?_ | refine H.datl hc2 (by rfl) ?_ | refine H.lw ?_ | refine H.ll ?_)); (conv => whnf))
        exact ⟨V5, ⟨none, 0, 0⟩, hV25, H.sx, rfl, SlF.nil _ _⟩
      | some y =>
        obtain ⟨wv, wr⟩ := y
        have et : toRes (some (wv, wr)) O.length = ⟨wv, wr, 0, 0⟩ := by unfold toRes; rw [if_neg hO1]
        rw [hto, et] at hvv hrr
        rw [et]
        dsimp only at hvv hrr ⊢
        obtain ⟨pb, hpb⟩ := write_to hra hch c4 hno hbig hsd (by rw [← hO]; exact hto)
        have hcond : (O.length ≤ 1000 ∧ sndTo O = some (v, b)) ↔ (wr = b ∧ pb = sb) := by
          rw [hto, hpb, hve]
          constructor
          · rintro ⟨_, h⟩
            simp only [Option.some.injEq, Prod.mk.injEq, Val.mk.injEq, List.cons.injEq, and_true, true_and] at h
            exact ⟨h.2, h.1⟩
          · rintro ⟨rfl, rfl⟩
            exact ⟨by omega, rfl⟩
        obtain ⟨hp2, x2, hx2, d0, d1, d2, d3, d4⟩ := hvv.part5 (i := 2) (by rw [hpb]; show 2 < 3; decide)
        obtain ⟨hq2, y2, hy2, f0, f1, f2, f3, f4⟩ := (hv0.up hV25).part5 (i := 2) (by rw [hve]; show 2 < 3; decide)
        have hxb := hx2.bytes
        have hyb := hy2.bytes
        have g1 : (wv.parts[2]'(by rw [hpb]; show 2 < 3; decide)).bytes = pb := by simp [hpb]
        have g2 : (v.parts[2]'(by rw [hve]; show 2 < 3; decide)).bytes = sb := by simp [hve]
        rw [g1] at hxb
        rw [g2] at hyb
        have hhl := hvv.plen
        have hwl : wv.parts.length = 3 := by rw [hpb]; rfl
        have hvl : v.parts.length = 3 := by rw [hve]; rfl
        obtain ⟨hk, hn, hbs, hss, hpl2⟩ := hh
        dsimp only at hp2 d0 d1 d2 d3 d4 hq2 f0 f1 f2 f3 f4 hhl
        ((repeat ((conv => whnf); first | refine an ?_ | refine H.ce ?_ | refine H.db ?_ | refine ea ?_ | refine ol ?_ | (refine H.st ?_; (conv => whnf); clear H; intro w H) | refine cT ?_ | refine cF ?_ | refine cN ?_ | refine cM ?_ | refine H.da (hc1 _ _ (by rfl)) ?_ | refine H.datw hc1 (by rfl) ?_ | refine H.datl hc1 (by rfl) ?_ | refine H.da (hc2 _ _ (by rfl)) ?_ | refine H.datw hc2 (by rfl) ?_ | refine H.datl hc2 (by rfl) ?_ | refine H.lw ?_ | refine H.ll ?_)); (conv => whnf))
        ((first | refine Rel.nwD H ?_ | refine Rel.nw H ?_); clear H; intro w b15 H)
        ((repeat ((conv => whnf); first | refine an ?_ | refine H.ce ?_ | refine H.db ?_ | refine ea ?_ | refine ol ?_ | (refine H.st ?_; (conv => whnf); clear H; intro w H) | refine cT ?_ | refine cF ?_ | refine cN ?_ | refine cM ?_ | refine H.da (hc1 _ _ (by rfl)) ?_ | refine H.datw hc1 (by rfl) ?_ | refine H.datl hc1 (by rfl) ?_ | refine H.da (hc2 _ _ (by rfl)) ?_ | refine H.datw hc2 (by rfl) ?_ | refine H.datl hc2 (by rfl) ?_ | refine H.lw ?_ | refine H.ll ?_)); (conv => whnf))
        ((first | refine Rel.nwD H ?_ | refine Rel.nw H ?_); clear H; intro w b17 H)
        ((repeat ((conv => whnf); first | refine an ?_ | ((first | refine H.nwD ?_ | refine H.nw ?_); clear H; intro w _ H) | refine H.ce ?_ | refine H.db ?_ | refine ea ?_ | refine ol ?_ | (refine H.st ?_; (conv => whnf); clear H; intro w H) | refine cT ?_ | refine cF ?_ | refine cN ?_ | refine cM ?_ | refine H.da (hc1 _ _ (by rfl)) ?_ | refine H.datw hc1 (by rfl) ?_ | refine H.datl hc1 (by rfl) ?_ | refine H.da (hc2 _ _ (by rfl)) ?_ | refine H.datw hc2 (by rfl) ?_ | refine H.datl hc2 (by rfl) ?_ | refine H.lw ?_ | refine H.ll ?_)); (conv => whnf))
        ((first | refine draw_vc (id := 3) tabOk mixed [] [0, 1, 2] (by kernel_rfl) ?_ | refine draw_vc (id := 10) tabOk mixed [] [0, 1, 2] (by kernel_rfl) ?_ | refine draw_vc (id := 13) tabOk mixed [] [0, 1, 2] (by kernel_rfl) ?_ | refine draw_vc (id := 15) tabOk mixed [] [0, 1, 2, 3, 4, 5, 6, 7, 8, 9, 10, 11, 12, 13, 14, 15, 16, 17, 18, 19, 20, 21, 22] (by kernel_rfl) ?_ | refine draw_vc (id := 16) tabOk mixed [] [0, 1, 2] (by kernel_rfl) ?_); intro w hdw; replace H := Rel.ext H hdw.ext)
        ((repeat ((conv => whnf); first | refine an ?_ | ((first | refine H.nwD ?_ | refine H.nw ?_); clear H; intro w _ H) | refine H.ce ?_ | refine H.db ?_ | refine ea ?_ | refine ol ?_ | (refine H.st ?_; (conv => whnf); clear H; intro w H) | refine cT ?_ | refine cF ?_ | refine cN ?_ | refine cM ?_ | refine H.da (hc1 _ _ (by rfl)) ?_ | refine H.datw hc1 (by rfl) ?_ | refine H.datl hc1 (by rfl) ?_ | refine H.da (hc2 _ _ (by rfl)) ?_ | refine H.datw hc2 (by rfl) ?_ | refine H.datl hc2 (by rfl) ?_ | refine H.lw ?_ | refine H.ll ?_)); (conv => whnf))
        refine (equal_bytes H.data hrr (hs.up hV25)).use ?_
        rintro q w ⟨rfl, K⟩
        (have hKb := K.base; replace H := Rel.call H K)
        simp only [List.nil_append] at H
        by_cases hc1 : wr = b
        rotate_left
        · rw [decide_eq_false hc1]
          have e := badE (by rw [hmk, if_neg]; intro h; exact hc1 (hcond.1 h).1)
          rw [e]
          ((repeat ((conv => whnf); first | refine an ?_ | ((first | refine H.nwD ?_ | refine H.nw ?_); clear H; intro w _ H) | refine H.ce ?_ | refine H.db ?_ | refine ea ?_ | refine ol ?_ | (refine H.st ?_; (conv => whnf); clear H; intro w H) | refine cT ?_ | refine cF ?_ | refine cN ?_ | refine cM ?_ | refine H.da (hc1 _ _ (by rfl)) ?_ | refine H.datw hc1 (by rfl) ?_ | refine H.datl hc1 (by rfl) ?_ | refine H.da (hc2 _ _ (by rfl)) ?_ | refine H.datw hc2 (by rfl) ?_ | refine H.datl hc2 (by rfl) ?_ | refine H.lw ?_ | refine H.ll ?_)); (conv => whnf))
          ((first | refine draw_vc (id := 3) tabOk mixed [] [0, 1, 2] (by kernel_rfl) ?_ | refine draw_vc (id := 10) tabOk mixed [] [0, 1, 2] (by kernel_rfl) ?_ | refine draw_vc (id := 13) tabOk mixed [] [0, 1, 2] (by kernel_rfl) ?_ | refine draw_vc (id := 15) tabOk mixed [] [0, 1, 2, 3, 4, 5, 6, 7, 8, 9, 10, 11, 12, 13, 14, 15, 16, 17, 18, 19, 20, 21, 22] (by kernel_rfl) ?_ | refine draw_vc (id := 16) tabOk mixed [] [0, 1, 2] (by kernel_rfl) ?_); intro w hdw; replace H := Rel.ext H hdw.ext)
          ((repeat ((conv => whnf); first | refine an ?_ | ((first | refine H.nwD ?_ | refine H.nw ?_); clear H; intro w _ H) | refine H.ce ?_ | refine H.db ?_ | refine ea ?_ | refine ol ?_ | (refine H.st ?_; (conv => whnf); clear H; intro w H) | refine cT ?_ | refine cF ?_ | refine cN ?_ | refine cM ?_ | refine H.da (hc1 _ _ (by rfl)) ?_ | refine H.datw hc1 (by rfl) ?_ | refine H.datl hc1 (by rfl) ?_ | refine H.da (hc2 _ _ (by rfl)) ?_ | refine H.datw hc2 (by rfl) ?_ | refine H.datl hc2 (by rfl) ?_ | refine H.lw ?_ | refine H.ll ?_)); (conv => whnf))
          exact ⟨V5, ⟨none, 0, 0⟩, hV25, H.sx, rfl, SlF.nil _ _⟩
        rw [decide_eq_true hc1]
        ((repeat ((conv => whnf); first | refine an ?_ | ((first | refine H.nwD ?_ | refine H.nw ?_); clear H; intro w _ H) | refine H.ce ?_ | refine H.db ?_ | refine ea ?_ | refine ol ?_ | (refine H.st ?_; (conv => whnf); clear H; intro w H) | refine cT ?_ | refine cF ?_ | refine cN ?_ | refine cM ?_ | refine H.da (hc1 _ _ (by rfl)) ?_ | refine H.datw hc1 (by rfl) ?_ | refine H.datl hc1 (by rfl) ?_ | refine H.da (hc2 _ _ (by rfl)) ?_ | refine H.datw hc2 (by rfl) ?_ | refine H.datl hc2 (by rfl) ?_ | refine H.lw ?_ | refine H.ll ?_)); (conv => whnf))
        refine (equal_bytes H.data hxb hyb).use ?_
        rintro q w ⟨rfl, K⟩
        (have hKb := K.base; replace H := H.call0 K)
        by_cases hc2 : pb = sb
        rotate_left
        · rw [decide_eq_false hc2]
          have e := badE (by rw [hmk, if_neg]; intro h; exact hc2 (hcond.1 h).2)
          rw [e]
          ((repeat ((conv => whnf); first | refine an ?_ | ((first | refine H.nwD ?_ | refine H.nw ?_); clear H; intro w _ H) | refine H.ce ?_ | refine H.db ?_ | refine ea ?_ | refine ol ?_ | (refine H.st ?_; (conv => whnf); clear H; intro w H) | refine cT ?_ | refine cF ?_ | refine cN ?_ | refine cM ?_ | refine H.da (hc1 _ _ (by rfl)) ?_ | refine H.datw hc1 (by rfl) ?_ | refine H.datl hc1 (by rfl) ?_ | refine H.da (hc2 _ _ (by rfl)) ?_ | refine H.datw hc2 (by rfl) ?_ | refine H.datl hc2 (by rfl) ?_ | refine H.lw ?_ | refine H.ll ?_)); (conv => whnf))
          ((first | refine draw_vc (id := 3) tabOk mixed [] [0, 1, 2] (by kernel_rfl) ?_ | refine draw_vc (id := 10) tabOk mixed [] [0, 1, 2] (by kernel_rfl) ?_ | refine draw_vc (id := 13) tabOk mixed [] [0, 1, 2] (by kernel_rfl) ?_ | refine draw_vc (id := 15) tabOk mixed [] [0, 1, 2, 3, 4, 5, 6, 7, 8, 9, 10, 11, 12, 13, 14, 15, 16, 17, 18, 19, 20, 21, 22] (by kernel_rfl) ?_ | refine draw_vc (id := 16) tabOk mixed [] [0, 1, 2] (by kernel_rfl) ?_); intro w hdw; replace H := Rel.ext H hdw.ext)
          ((repeat ((conv => whnf); first | refine an ?_ | ((first | refine H.nwD ?_ | refine H.nw ?_); clear H; intro w _ H) | refine H.ce ?_ | refine H.db ?_ | refine ea ?_ | refine ol ?_ | (refine H.st ?_; (conv => whnf); clear H; intro w H) | refine cT ?_ | refine cF ?_ | refine cN ?_ | refine cM ?_ | refine H.da (hc1 _ _ (by rfl)) ?_ | refine H.datw hc1 (by rfl) ?_ | refine H.datl hc1 (by rfl) ?_ | refine H.da (hc2 _ _ (by rfl)) ?_ | refine H.datw hc2 (by rfl) ?_ | refine H.datl hc2 (by rfl) ?_ | refine H.lw ?_ | refine H.ll ?_)); (conv => whnf))
          exact ⟨V5, ⟨none, 0, 0⟩, hV25, H.sx, rfl, SlF.nil _ _⟩
        rw [decide_eq_true hc2]
        have e : frRes v (some (rate, ch, sb)).isSome (sndMake v b) = (O, 0, 0) := by
          rw [hmk, if_pos (hcond.2 ⟨hc1, hc2⟩)]
          unfold frRes
          rw [if_neg (fun h => h hvf)]
          rfl
        rw [e]
        ((repeat ((conv => whnf); first | refine an ?_ | ((first | refine H.nwD ?_ | refine H.nw ?_); clear H; intro w _ H) | refine H.ce ?_ | refine H.db ?_ | refine ea ?_ | refine ol ?_ | (refine H.st ?_; (conv => whnf); clear H; intro w H) | refine cT ?_ | refine cF ?_ | refine cN ?_ | refine cM ?_ | refine H.da (hc1 _ _ (by rfl)) ?_ | refine H.datw hc1 (by rfl) ?_ | refine H.datl hc1 (by rfl) ?_ | refine H.da (hc2 _ _ (by rfl)) ?_ | refine H.datw hc2 (by rfl) ?_ | refine H.datl hc2 (by rfl) ?_ | refine H.lw ?_ | refine H.ll ?_)); (conv => whnf))
        exact ⟨V5, ro, hV25, H.sx, rfl, ho.up hV5⟩
end
end Go.Proofs.Ytjfcpnlacodjjaa
