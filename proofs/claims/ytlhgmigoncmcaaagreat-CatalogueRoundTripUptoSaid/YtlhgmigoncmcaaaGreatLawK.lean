/-
  CatalogueRoundTrip: catalogue.Encode; what is encoded is decoded.
-/
import Derived.Test.YtlhgmigoncmcaaaGreatDecH
namespace Go.Proofs.YtlhgmigoncmcaaaGreat
open Go Go.RowKit

theorem slice_ents {V W : World} (hV : Sub V W) {s : Sl} {l : List (Ent × EntH)} (hs : SlF entP V s l) {g : FuncId} {cap : List Value} {enc : (Ent × EntH) → List UInt8} (hone : ∀ x ∈ l, OneOk V g cap ((fun p => .agg (entP p).toArray) x) (enc x)) (hll : l.length ≤ 1099511627776) (hb : (putL enc l).length ≤ 1099511627776) :
    Ret Tryz.prog 19 [s.v, .func (.func g) #[] cap.toArray].toArray W fun v w' => ∃ r : Sl, v = r.v ∧ Rel W V [.row r 5 1 ((putL enc l).flatMap byC)] V w' := by
  have H := Rel.start hV
  have hlen := hs.len
  rw [putL, List.length_append] at hb
  refine cal_of_vc tabOk Tryz.func19 rfl (by kernel_rfl) 24 rfl (by simp) [0, 1, 4, 5, 7, 11, 12, 13, 14] ?_
  ((repeat ((conv => whnf); first | refine an ?_ | ((first | refine H.nwD ?_ | refine H.nw ?_); clear H; intro w _ H) | refine H.ce ?_ | refine H.db ?_ | refine ea ?_ | (refine H.st ?_; (conv => whnf); clear H; intro w H) | refine condT fun _ => ?_ | refine condF fun _ => ?_ | refine condNT fun _ => ?_ | refine condNF fun _ => ?_ | refine H.da (hc1 _ _ (by rfl)) ?_ | refine H.datw hc1 (by rfl) ?_ | refine H.datl hc1 (by rfl) ?_ | refine H.lw ?_ | refine H.ll ?_)); (conv => whnf))
  rw [hlen]
  refine (number_spec (n := l.length) H.data (by constructor <;> omega)).use ?_
  rintro v w ⟨r0, rfl, K⟩
  replace H := H.call K
  ((repeat ((conv => whnf); first | refine an ?_ | ((first | refine H.nwD ?_ | refine H.nw ?_); clear H; intro w _ H) | refine H.ce ?_ | refine H.db ?_ | refine ea ?_ | (refine H.st ?_; (conv => whnf); clear H; intro w H) | refine condT fun _ => ?_ | refine condF fun _ => ?_ | refine condNT fun _ => ?_ | refine condNF fun _ => ?_ | refine H.da (hc1 _ _ (by rfl)) ?_ | refine H.datw hc1 (by rfl) ?_ | refine H.datl hc1 (by rfl) ?_ | refine H.lw ?_ | refine H.ll ?_)); (conv => whnf))
  refine loop_inv (S := Nat × Sl) tabOk [0, 1, 4, 11, 12] (fun k => [(5, k.2.v), (13, iv k.1)]) (fun k w' => k.1 ≤ l.length ∧ ∃ V1, Sub V V1 ∧ Rel W V [.row k.2 5 1 ((putN l.length ++ (l.take k.1).flatMap enc).flatMap byC)] V1 w') (fun k _ => l.length - k.1) (0, r0) ?_
  (conv => whnf)
  refine ⟨(by repeat (first | exact trivial | refine ⟨rfl, ?_⟩)), ⟨by omega, V, Sub.refl _, by simpa using H⟩, ?_⟩
  clear H
  rintro ⟨k, r⟩ w ⟨hk, V1, hV1, H⟩
  dsimp only at hk H
  by_cases hlt : k < l.length
  rotate_left
  · ((repeat ((conv => whnf); first | refine an ?_ | ((first | refine H.nwD ?_ | refine H.nw ?_); clear H; intro w _ H) | refine H.ce ?_ | refine H.db ?_ | refine ea ?_ | (refine H.st ?_; (conv => whnf); clear H; intro w H) | refine condT fun _ => ?_ | refine condF fun _ => ?_ | refine condNT fun _ => ?_ | refine condNF fun _ => ?_ | refine H.da (hc1 _ _ (by rfl)) ?_ | refine H.datw hc1 (by rfl) ?_ | refine H.datl hc1 (by rfl) ?_ | refine H.lw ?_ | refine H.ll ?_)); (conv => whnf))
    rw [List.take_of_length_le (by omega)] at H
    exact ⟨r, rfl, H.back⟩
  have hbl := flat_part (enc := enc) hlt
  obtain ⟨hp, hc1⟩ := (hs.up hV1).get (n := 76) (fun _ => rfl) (by omega) hlt
  ((repeat ((conv => whnf); first | refine an ?_ | ((first | refine H.nwD ?_ | refine H.nw ?_); clear H; intro w _ H) | refine H.ce ?_ | refine H.db ?_ | refine ea ?_ | (refine H.st ?_; (conv => whnf); clear H; intro w H) | refine condT fun _ => ?_ | refine condF fun _ => ?_ | refine condNT fun _ => ?_ | refine condNF fun _ => ?_ | refine H.da (hc1 _ _ (by rfl)) ?_ | refine H.datw hc1 (by rfl) ?_ | refine H.datl hc1 (by rfl) ?_ | refine H.lw ?_ | refine H.ll ?_)); (conv => whnf))
  refine (hone l[k] (List.getElem_mem hlt) V1 w hV1 H.data).use ?_
  rintro v w ⟨V2, x, hV2, rfl, hx, K⟩
  replace H := H.call K
  simp only [List.nil_append] at H
  ((repeat ((conv => whnf); first | refine an ?_ | ((first | refine H.nwD ?_ | refine H.nw ?_); clear H; intro w _ H) | refine H.ce ?_ | refine H.db ?_ | refine ea ?_ | (refine H.st ?_; (conv => whnf); clear H; intro w H) | refine condT fun _ => ?_ | refine condF fun _ => ?_ | refine condNT fun _ => ?_ | refine condNF fun _ => ?_ | refine H.da (hc1 _ _ (by rfl)) ?_ | refine H.datw hc1 (by rfl) ?_ | refine H.datl hc1 (by rfl) ?_ | refine H.lw ?_ | refine H.ll ?_)); (conv => whnf))
  refine Rel.appD H (i := 1) rfl hx (by simp only [List.length_append]; omega) ?_
  clear H
  intro rn w H
  rw [flat_next hlt] at H
  ((repeat ((conv => whnf); first | refine an ?_ | ((first | refine H.nwD ?_ | refine H.nw ?_); clear H; intro w _ H) | refine H.ce ?_ | refine H.db ?_ | refine ea ?_ | (refine H.st ?_; (conv => whnf); clear H; intro w H) | refine condT fun _ => ?_ | refine condF fun _ => ?_ | refine condNT fun _ => ?_ | refine condNF fun _ => ?_ | refine H.da (hc1 _ _ (by rfl)) ?_ | refine H.datw hc1 (by rfl) ?_ | refine H.datl hc1 (by rfl) ?_ | refine H.lw ?_ | refine H.ll ?_)); (conv => whnf))
  exact ⟨(by repeat (first | exact trivial | refine ⟨rfl, ?_⟩)), (k + 1, rn), (by repeat (first | exact trivial | refine ⟨rfl, ?_⟩)), ⟨by omega, V2, hV1.trans hV2, H.sx⟩, by omega⟩
theorem one_len {n : Nat} (h : n ≤ 32) : (putN n).length = 1 := by
  unfold putN zz
  rw [if_pos (by omega), putU_small (by omega)]
  rfl
theorem name_len {s : List UInt8} (h : nameOk s = true) : (putC s).length ≤ 33 := by
  have := nameOk_len h
  rw [putC, List.length_append, one_len (by omega)]
  omega
theorem putE_len {e : Ent} (hn : EntNum e) (h : entCode1 e = 0) : (putE e).length ≤ 3263 := by
  obtain ⟨h1, h2, h3, h4, h5, h6⟩ := entCode1_zero h
  have hT := tame_of hn h
  have p : ∀ {n : Int}, I64 n → (putN n).length ≤ 10 := fun h => putN_len h.1 h.2
  have a1 := name_len h1
  have a2 := p hn.ver
  have a3 := p hn.kind
  have a4 := p hn.day
  have a5 := p hn.size
  have a6 := p hn.emb
  have a7 := p hn.need
  have a8 := p hn.keep
  have a9 := p hn.csize
  have b1 := digL_len e.sum
  have b2 := digL_len e.csum
  have c1 := putL_len (f := putRef) (l := e.sources) (m := 43) (by omega) fun r hr => by
    obtain ⟨i, hi, rfl⟩ := List.getElem_of_mem hr
    have := firstCode_all h4 hi
    unfold srcAt at this
    split at this
    · cases this
    · rename_i hx
      simp only [hi, List.getElem?_eq_getElem, Option.getD_some] at hx
      have := name_len (s := e.sources[i].name) (by simpa using hx)
      have := p (hn.srcs _ hr)
      rw [putRef, List.length_append]
      omega
  have c2 := putL_len (f := putC) (l := e.groups) (m := 33) (by omega) fun g hg => by
    obtain ⟨i, hi, rfl⟩ := List.getElem_of_mem hg
    have := firstCode_all h5 hi
    unfold grpAt at this
    split at this
    · cases this
    · rename_i hx
      simp only [hi, List.getElem?_eq_getElem, Option.getD_some] at hx
      exact name_len (s := e.groups[i]) (by simpa using hx)
  have c3 := hT.digs
  have c4 := flat_digs e.pieces
  have c5 := p (n := e.pieces.length) (by have := hT.pi; constructor <;> omega)
  have c6 := hT.pi
  have c7 : (putL digL e.pieces).length = (putN e.pieces.length).length + e.pieces.length * 32 := by rw [putL, List.length_append, c4]
  simp only [putE, List.length_append]
  omega
theorem putCat_len {l : List Ent} (h60 : l.length ≤ 60) (h : ∀ e ∈ l, (putE e).length ≤ 3263) : (putL putE l).length ≤ 200000 := by
  have := putL_len (f := putE) (l := l) (m := 3263) (by omega) h
  omega
theorem digC_normD (d : Dig) : digC (normD d) = digC d := by
  have h : ∀ d : Dig, digC d = (digL d).map bv := fun _ => rfl
  rw [h, h, digL_normD]
theorem entC_normE (e : Ent) (h : EntH) : entC (normE e) h = entC e h := by
  simp only [entC, normE, digC_normD]
theorem flat_digC : ∀ l : List Dig, (l.map normD).flatMap digC = l.flatMap digC
  | [] => rfl
  | d :: l => by simp only [List.map_cons, List.flatMap_cons, digC_normD, flat_digC l]
theorem denorm_list {V : World} : ∀ (l : List Ent) (ps : List (Ent × EntH)), ps.map (·.1) = l.map normE → (∀ p ∈ ps, EntOk V p.1 p.2) → ∃ ps' : List (Ent × EntH), ps'.map (·.1) = l ∧ ps'.flatMap entP = ps.flatMap entP ∧ ps'.length = ps.length ∧ ∀ p ∈ ps', EntOk V p.1 p.2
  | [], ps, h, _ => by
    have : ps = [] := by simpa using h
    subst this
    exact ⟨[], rfl, rfl, rfl, by simp⟩
  | e :: l, [], h, _ => by simp at h
  | e :: l, p :: ps, h, hk => by
    simp only [List.map_cons, List.cons.injEq] at h
    obtain ⟨ps', h1, h2, h3, h4⟩ := denorm_list l ps h.2 fun q hq => hk q (by simp [hq])
    obtain ⟨k1, k2, k3⟩ := hk p (by simp)
    refine ⟨(e, p.2) :: ps', by simp [h1], ?_, by simp [h3], fun q hq => ?_⟩
    · simp only [List.flatMap_cons, h2]
      congr 1
      have := entC_normE e p.2
      rw [← h.1] at this
      exact this.symm
    · rcases List.mem_cons.1 hq with rfl | hq
      · rw [h.1] at k1 k2 k3
        refine ⟨k1, k2, ?_⟩
        have k3 : Digs V p.2.pi (e.pieces.map normD) := k3
        exact ⟨by rw [k3.len]; simp, k3.cap, by have := k3.cells; rw [flat_digC] at this; exact this⟩
      · exact h4 q hq
theorem Ents.denorm {V : World} {s : Sl} {l : List Ent} (h : Ents V s (l.map normE)) : Ents V s l := by
  obtain ⟨ps, h1, h2, h3⟩ := h.ex
  obtain ⟨ps', k1, k2, k3, k4⟩ := denorm_list l ps h1 h3
  have h2 : SlF entP V s ps := h2
  exact ⟨ps', k1, ⟨by rw [h2.len, k3], h2.cap, by have := h2.cells; rw [← k2] at this; exact this⟩, k4⟩
theorem entCode1_norm (e : Ent) : entCode1 (normE e) = entCode1 e := by simp only [entCode1, normE, List.length_map]
theorem getD_norm (l : List Ent) (i : Nat) : (l.map normE)[i]?.getD default = l[i]?.getD default ∨ (l.map normE)[i]?.getD default = normE (l[i]?.getD default) := by
  rw [List.getElem?_map]
  cases l[i]? with
  | none => exact .inl rfl
  | some e => exact .inr rfl
theorem any_later (l : List Ent) (e : Ent) : (l.map normE).any (later e) = l.any (later e) := by
  rw [List.any_map]
  rfl
theorem entriesCode_norm (l : List Ent) (i : Nat) : entriesCode (l.map normE) i = entriesCode l i := by
  unfold entriesCode
  rw [← List.map_take]
  unfold entCode
  rw [any_later]
  rcases getD_norm l i with h | h
  · rw [h]
  · rw [h, entCode1_norm]
    rfl
theorem place_norm (l : List Ent) (r : RefD) : place (l.map normE) r = place l r := by
  unfold place
  rw [List.findIdx?_map]
  rfl
theorem cycleAt_norm (l : List Ent) (i : Nat) : cycleAt (l.map normE) i = cycleAt l i := by
  unfold cycleAt
  have h : cycR (l.map normE) i = cycR l i := by
    funext r
    unfold cycR
    rw [place_norm]
  rw [h]
  rcases getD_norm l i with h | h
  · rw [h]
  · rw [h]; rfl
theorem catFault_norm (l : List Ent) : catFault (l.map normE) = catFault l := by
  have h1 : (fun i => decide (entriesCode (l.map normE) i ≠ 0)) = fun i => decide (entriesCode l i ≠ 0) := by
    funext i
    rw [entriesCode_norm]
  have h2 : cycleAt (l.map normE) = cycleAt l := funext fun i => cycleAt_norm l i
  unfold catFault
  rw [h1, h2, List.length_map, entriesCode_norm]
theorem decE_put {l : List Ent} (h60 : l.length ≤ 60) (hf : (catFault l).1 = 0) (ht : ∀ e ∈ l, Tame e) : decE (putL putE l) = some (l.map normE) := by
  have hb : ∀ e ∈ l, (putE e).length ≤ (putL putE l).length := fun e he => by
    obtain ⟨a, b, rfl⟩ := List.append_of_mem he
    simp only [putL, List.flatMap_append, List.flatMap_cons, List.length_append]
    omega
  have hpe : putL putE (l.map normE) = putL putE l := by
    simp only [putL, List.length_map, List.flatMap_map, putE_normE]
  have hw := (list_wrs (l := putL putE l) (put := putE) (one := entAt (putL putE l)) (xs := l.map normE) (m := 60) (by simp; omega) (by simp; omega) (fun x hx => by
    obtain ⟨e, he, rfl⟩ := List.mem_map.1 hx
    exact ent_wrs _ (ht e he) (hb e he))).wr 0 [] (by rw [hpe]; simp) (Nat.zero_le _)
  unfold decE
  rw [hw, hpe]
  simp only [Nat.zero_add]
  rw [if_pos ⟨trivial, by rw [catFault_norm]; exact hf⟩]
theorem putL_ps {l : List Ent} {ps : List (Ent × EntH)} (h : ps.map (·.1) = l) : putL (fun p : Ent × EntH => putE p.1) ps = putL putE l := by
  subst h
  simp only [putL, List.length_map, List.flatMap_map]
section
variable {V W : World}
set_option maxRecDepth 100000 in
theorem encodeAll_spec (hV : Sub V W) {s : Sl} {l : List Ent} (hs : Ents V s l) (hl : l.length ≤ 1048576) (hn : ∀ e ∈ l, EntNum e) : Ret Tryz.prog 5 [catV s].toArray W fun v w' => ∃ (V' : World) (r : Sl), Sub V V' ∧ Rel W V [] V' w' ∧ v = .tuple #[r.v, faultV (catFault l).1 (catFault l).2] ∧ ((catFault l).1 ≠ 0 ∧ r = ⟨none, 0, 0⟩ ∨ (catFault l).1 = 0 ∧ Byt V' r (putL putE l)) := by
  have H := Rel.start hV
  refine cal_of_vc tabOk Tryz.func5 rfl (by kernel_rfl) 15 rfl (by simp) [0, 1, 2, 3, 4, 9] ?_
  ((repeat ((conv => whnf); first | refine an ?_ | refine H.ce ?_ | refine H.db ?_ | refine ea ?_ | (refine H.st ?_; (conv => whnf); clear H; intro w H) | refine condT fun _ => ?_ | refine condF fun _ => ?_ | refine condNT fun _ => ?_ | refine condNF fun _ => ?_ | refine H.da (hc1 _ _ (by rfl)) ?_ | refine H.datw hc1 (by rfl) ?_ | refine H.datl hc1 (by rfl) ?_ | refine H.lw ?_ | refine H.ll ?_)); (conv => whnf))
  ((first | refine Rel.nwD H ?_ | refine Rel.nw H ?_); clear H; intro w b1 H)
  ((repeat ((conv => whnf); first | refine an ?_ | refine H.ce ?_ | refine H.db ?_ | refine ea ?_ | (refine H.st ?_; (conv => whnf); clear H; intro w H) | refine condT fun _ => ?_ | refine condF fun _ => ?_ | refine condNT fun _ => ?_ | refine condNF fun _ => ?_ | refine H.da (hc1 _ _ (by rfl)) ?_ | refine H.datw hc1 (by rfl) ?_ | refine H.datl hc1 (by rfl) ?_ | refine H.lw ?_ | refine H.ll ?_)); (conv => whnf))
  ((first | refine Rel.nwD H ?_ | refine Rel.nw H ?_); clear H; intro w b3 H)
  ((repeat ((conv => whnf); first | refine an ?_ | ((first | refine H.nwD ?_ | refine H.nw ?_); clear H; intro w _ H) | refine H.ce ?_ | refine H.db ?_ | refine ea ?_ | (refine H.st ?_; (conv => whnf); clear H; intro w H) | refine condT fun _ => ?_ | refine condF fun _ => ?_ | refine condNT fun _ => ?_ | refine condNF fun _ => ?_ | refine H.da (hc1 _ _ (by rfl)) ?_ | refine H.datw hc1 (by rfl) ?_ | refine H.datl hc1 (by rfl) ?_ | refine H.lw ?_ | refine H.ll ?_)); (conv => whnf))
  refine (validate_spec H.data hs (by omega)).use ?_
  rintro v w ⟨rfl, V2, hV2, K⟩
  (have hKb := K.base; replace H := Rel.call H K)
  simp only [List.nil_append] at H
  ((repeat ((conv => whnf); first | refine an ?_ | refine H.ce ?_ | refine H.db ?_ | refine ea ?_ | (refine H.st ?_; (conv => whnf); clear H; intro w H) | refine condT fun _ => ?_ | refine condF fun _ => ?_ | refine condNT fun _ => ?_ | refine condNF fun _ => ?_ | refine H.da (hc1 _ _ (by rfl)) ?_ | refine H.datw hc1 (by rfl) ?_ | refine H.datl hc1 (by rfl) ?_ | refine H.lw ?_ | refine H.ll ?_)); (conv => whnf))
  ((first | refine Rel.nwD H ?_ | refine Rel.nw H ?_); clear H; intro w b4 H)
  by_cases hf : (catFault l).1 = 0
  rotate_left
  · ((repeat ((conv => whnf); first | refine an ?_ | ((first | refine H.nwD ?_ | refine H.nw ?_); clear H; intro w _ H) | refine H.ce ?_ | refine H.db ?_ | refine ea ?_ | (refine H.st ?_; (conv => whnf); clear H; intro w H) | refine condT fun _ => ?_ | refine condF fun _ => ?_ | refine condNT fun _ => ?_ | refine condNF fun _ => ?_ | refine H.da (hc1 _ _ (by rfl)) ?_ | refine H.datw hc1 (by rfl) ?_ | refine H.datl hc1 (by rfl) ?_ | refine H.lw ?_ | refine H.ll ?_)); (conv => whnf))
    ((first | refine draw_vc (id := 3) tabOk mixed [] [0, 1, 2] (by kernel_rfl) ?_); intro w hdw; replace H := Rel.ext H hdw.ext)
    ((repeat ((conv => whnf); first | refine an ?_ | ((first | refine H.nwD ?_ | refine H.nw ?_); clear H; intro w _ H) | refine H.ce ?_ | refine H.db ?_ | refine ea ?_ | (refine H.st ?_; (conv => whnf); clear H; intro w H) | refine condT fun _ => ?_ | refine condF fun _ => ?_ | refine condNT fun _ => ?_ | refine condNF fun _ => ?_ | refine H.da (hc1 _ _ (by rfl)) ?_ | refine H.datw hc1 (by rfl) ?_ | refine H.datl hc1 (by rfl) ?_ | refine H.lw ?_ | refine H.ll ?_)); (conv => whnf))
    exact ⟨V2, ⟨none, 0, 0⟩, hV2, H.sx, rfl, .inl ⟨hf, rfl⟩⟩
  obtain ⟨hc0, h60, hent, _⟩ := catFault_zero hf
  have hta := tames hn hent
  obtain ⟨ps, hp1, hp2, hp3⟩ := (hs.up hV2).ex
  have hpl : ps.length = l.length := by rw [← hp1]; simp
  have hput := putL_ps hp1
  have hle : (putL putE l).length ≤ 200000 := putCat_len h60 fun e he => by
    obtain ⟨i, hi, rfl⟩ := List.getElem_of_mem he
    exact putE_len (hn _ he) (entriesCode_one hi (hent i hi))
  rw [hc0]
  ((repeat ((conv => whnf); first | refine an ?_ | ((first | refine H.nwD ?_ | refine H.nw ?_); clear H; intro w _ H) | refine H.ce ?_ | refine H.db ?_ | refine ea ?_ | (refine H.st ?_; (conv => whnf); clear H; intro w H) | refine condT fun _ => ?_ | refine condF fun _ => ?_ | refine condNT fun _ => ?_ | refine condNF fun _ => ?_ | refine H.da (hc1 _ _ (by rfl)) ?_ | refine H.datw hc1 (by rfl) ?_ | refine H.datl hc1 (by rfl) ?_ | refine H.lw ?_ | refine H.ll ?_)); (conv => whnf))
  refine (slice_ents (l := ps) (enc := fun p : Ent × EntH => putE p.1) H.data hp2 (fun p hp => oneOk_of fun V1 W1 h1 h2 => encode_spec h1 ((hp3 p hp).up h2) (hta p.1 (by rw [← hp1]; exact List.mem_map.2 ⟨p, hp, rfl⟩))) (by omega) (by rw [hput]; omega)).use ?_
  rintro v w ⟨r, rfl, K⟩
  (have hKb := K.base; replace H := Rel.call H K)
  simp only [List.cons_append, List.nil_append] at H
  obtain ⟨V3, hV3, H, hr⟩ := Rel.freezeF H (fun _ => rfl) (by decide)
  rw [hput] at hr
  ((repeat ((conv => whnf); first | refine an ?_ | ((first | refine H.nwD ?_ | refine H.nw ?_); clear H; intro w _ H) | refine H.ce ?_ | refine H.db ?_ | refine ea ?_ | (refine H.st ?_; (conv => whnf); clear H; intro w H) | refine condT fun _ => ?_ | refine condF fun _ => ?_ | refine condNT fun _ => ?_ | refine condNF fun _ => ?_ | refine H.da (hc1 _ _ (by rfl)) ?_ | refine H.datw hc1 (by rfl) ?_ | refine H.datl hc1 (by rfl) ?_ | refine H.lw ?_ | refine H.ll ?_)); (conv => whnf))
  exact ⟨V3, r, hV2.trans hV3, H.sx, rfl, .inr ⟨rfl, hr⟩⟩
end
set_option maxRecDepth 100000 in
theorem law_roundtrip {W : World} {s : Sl} {l : List Ent} (hs : Ents W s l) (hn : ∀ e ∈ l, EntNum e) (hl : l.length ≤ 1048576) : Ret Tryz.prog 3 [catV s].toArray W fun v w' => v = .bool true ∧ Ext W w' := by
  have H := Rel.start (Sub.refl W)
  refine cal_of_vc tabOk Tryz.func3 rfl (by kernel_rfl) 52 rfl (by simp) [0, 1, 2, 3, 4, 5, 6, 7, 9, 19] ?_
  ((repeat ((conv => whnf); first | refine an ?_ | refine H.ce ?_ | refine H.db ?_ | refine ea ?_ | (refine H.st ?_; (conv => whnf); clear H; intro w H) | refine condT fun _ => ?_ | refine condF fun _ => ?_ | refine condNT fun _ => ?_ | refine condNF fun _ => ?_ | refine H.da (hc1 _ _ (by rfl)) ?_ | refine H.datw hc1 (by rfl) ?_ | refine H.datl hc1 (by rfl) ?_ | refine H.lw ?_ | refine H.ll ?_)); (conv => whnf))
  ((first | refine Rel.nwD H ?_ | refine Rel.nw H ?_); clear H; intro w b1 H)
  ((repeat ((conv => whnf); first | refine an ?_ | ((first | refine H.nwD ?_ | refine H.nw ?_); clear H; intro w _ H) | refine H.ce ?_ | refine H.db ?_ | refine ea ?_ | (refine H.st ?_; (conv => whnf); clear H; intro w H) | refine condT fun _ => ?_ | refine condF fun _ => ?_ | refine condNT fun _ => ?_ | refine condNF fun _ => ?_ | refine H.da (hc1 _ _ (by rfl)) ?_ | refine H.datw hc1 (by rfl) ?_ | refine H.datl hc1 (by rfl) ?_ | refine H.lw ?_ | refine H.ll ?_)); (conv => whnf))
  refine (example_spec H.data).use ?_
  rintro v w ⟨rfl, V1, hV1, K⟩
  (have hKb := K.base; replace H := Rel.call H K)
  simp only [List.nil_append] at H
  have hs1 := hs.up hV1
  ((repeat ((conv => whnf); first | refine an ?_ | ((first | refine H.nwD ?_ | refine H.nw ?_); clear H; intro w _ H) | refine H.ce ?_ | refine H.db ?_ | refine ea ?_ | (refine H.st ?_; (conv => whnf); clear H; intro w H) | refine condT fun _ => ?_ | refine condF fun _ => ?_ | refine condNT fun _ => ?_ | refine condNF fun _ => ?_ | refine H.da (hc1 _ _ (by rfl)) ?_ | refine H.datw hc1 (by rfl) ?_ | refine H.datl hc1 (by rfl) ?_ | refine H.lw ?_ | refine H.ll ?_)); (conv => whnf))
  refine (encodeAll_spec H.data hs1 hl hn).use ?_
  rintro v w ⟨V2, r, hV2, K, rfl, hr⟩
  (have hKb := K.base; replace H := Rel.call H K)
  simp only [List.nil_append] at H
  replace hs1 := hs1.up hV2
  ((repeat ((conv => whnf); first | refine an ?_ | refine H.ce ?_ | refine H.db ?_ | refine ea ?_ | (refine H.st ?_; (conv => whnf); clear H; intro w H) | refine condT fun _ => ?_ | refine condF fun _ => ?_ | refine condNT fun _ => ?_ | refine condNF fun _ => ?_ | refine H.da (hc1 _ _ (by rfl)) ?_ | refine H.datw hc1 (by rfl) ?_ | refine H.datl hc1 (by rfl) ?_ | refine H.lw ?_ | refine H.ll ?_)); (conv => whnf))
  ((first | refine Rel.nwD H ?_ | refine Rel.nw H ?_); clear H; intro w b4 H)
  ((repeat ((conv => whnf); first | refine an ?_ | ((first | refine H.nwD ?_ | refine H.nw ?_); clear H; intro w _ H) | refine H.ce ?_ | refine H.db ?_ | refine ea ?_ | (refine H.st ?_; (conv => whnf); clear H; intro w H) | refine condT fun _ => ?_ | refine condF fun _ => ?_ | refine condNT fun _ => ?_ | refine condNF fun _ => ?_ | refine H.da (hc1 _ _ (by rfl)) ?_ | refine H.datw hc1 (by rfl) ?_ | refine H.datl hc1 (by rfl) ?_ | refine H.lw ?_ | refine H.ll ?_)); (conv => whnf))
  refine (catalogueFault_ref H.data hs1 (by omega)).use ?_
  rintro v w ⟨rfl, K⟩
  (have hKb := K.base; replace H := Rel.call H K)
  simp only [List.nil_append] at H
  ((repeat ((conv => whnf); first | refine an ?_ | refine H.ce ?_ | refine H.db ?_ | refine ea ?_ | (refine H.st ?_; (conv => whnf); clear H; intro w H) | refine condT fun _ => ?_ | refine condF fun _ => ?_ | refine condNT fun _ => ?_ | refine condNF fun _ => ?_ | refine H.da (hc1 _ _ (by rfl)) ?_ | refine H.datw hc1 (by rfl) ?_ | refine H.datl hc1 (by rfl) ?_ | refine H.lw ?_ | refine H.ll ?_)); (conv => whnf))
  ((first | refine Rel.nwD H ?_ | refine Rel.nw H ?_); clear H; intro w b5 H)
  rcases hr with ⟨hf, rfl⟩ | ⟨hf, hr⟩
  · ((repeat ((conv => whnf); first | refine an ?_ | ((first | refine H.nwD ?_ | refine H.nw ?_); clear H; intro w _ H) | refine H.ce ?_ | refine H.db ?_ | refine ea ?_ | (refine H.st ?_; (conv => whnf); clear H; intro w H) | refine condT fun _ => ?_ | refine condF fun _ => ?_ | refine condNT fun _ => ?_ | refine condNF fun _ => ?_ | refine H.da (hc1 _ _ (by rfl)) ?_ | refine H.datw hc1 (by rfl) ?_ | refine H.datl hc1 (by rfl) ?_ | refine H.lw ?_ | refine H.ll ?_)); (conv => whnf))
    (first | exact H.base | exact ⟨by simp, H.base⟩ | exact ⟨rfl, H.base⟩)
  obtain ⟨hc0, h60, hent, _⟩ := catFault_zero hf
  have hta := tames hn hent
  have hle : (putL putE l).length ≤ 200000 := putCat_len h60 fun e he => by
    obtain ⟨i, hi, rfl⟩ := List.getElem_of_mem he
    exact putE_len (hn _ he) (entriesCode_one hi (hent i hi))
  have hd := decE_put h60 hf hta
  have hdc : decCode (putL putE l) = (0, 0) := by rw [decCode, if_neg (by omega), hd]
  rw [hc0]
  ((repeat ((conv => whnf); first | refine an ?_ | ((first | refine H.nwD ?_ | refine H.nw ?_); clear H; intro w _ H) | refine H.ce ?_ | refine H.db ?_ | refine ea ?_ | (refine H.st ?_; (conv => whnf); clear H; intro w H) | refine condT fun _ => ?_ | refine condF fun _ => ?_ | refine condNT fun _ => ?_ | refine condNF fun _ => ?_ | refine H.da (hc1 _ _ (by rfl)) ?_ | refine H.datw hc1 (by rfl) ?_ | refine H.datl hc1 (by rfl) ?_ | refine H.lw ?_ | refine H.ll ?_)); (conv => whnf))
  refine (decode_spec H.data hr).use ?_
  intro v w hv
  obtain ⟨V3, t1, hV3, K, rfl, ht1⟩ := catOr_rowJ (fun _ => by rw [hdc]) hv
  clear hv
  rw [hdc] at ht1 ⊢
  rw [hd] at ht1
  rcases ht1 with ⟨h0, _⟩ | ⟨_, ht⟩
  · exact absurd rfl h0
  simp only [Option.getD_some] at ht
  replace ht := ht.denorm
  (have hKb := K.base; replace H := Rel.call H K)
  simp only [List.nil_append] at H
  replace hs1 := hs1.up hV3
  ((repeat ((conv => whnf); first | refine an ?_ | refine H.ce ?_ | refine H.db ?_ | refine ea ?_ | (refine H.st ?_; (conv => whnf); clear H; intro w H) | refine condT fun _ => ?_ | refine condF fun _ => ?_ | refine condNT fun _ => ?_ | refine condNF fun _ => ?_ | refine H.da (hc1 _ _ (by rfl)) ?_ | refine H.datw hc1 (by rfl) ?_ | refine H.datl hc1 (by rfl) ?_ | refine H.lw ?_ | refine H.ll ?_)); (conv => whnf))
  ((first | refine Rel.nwD H ?_ | refine Rel.nw H ?_); clear H; intro w b6 H)
  ((repeat ((conv => whnf); first | refine an ?_ | refine H.ce ?_ | refine H.db ?_ | refine ea ?_ | (refine H.st ?_; (conv => whnf); clear H; intro w H) | refine condT fun _ => ?_ | refine condF fun _ => ?_ | refine condNT fun _ => ?_ | refine condNF fun _ => ?_ | refine H.da (hc1 _ _ (by rfl)) ?_ | refine H.datw hc1 (by rfl) ?_ | refine H.datl hc1 (by rfl) ?_ | refine H.lw ?_ | refine H.ll ?_)); (conv => whnf))
  ((first | refine Rel.nwD H ?_ | refine Rel.nw H ?_); clear H; intro w b7 H)
  ((repeat ((conv => whnf); first | refine an ?_ | ((first | refine H.nwD ?_ | refine H.nw ?_); clear H; intro w _ H) | refine H.ce ?_ | refine H.db ?_ | refine ea ?_ | (refine H.st ?_; (conv => whnf); clear H; intro w H) | refine condT fun _ => ?_ | refine condF fun _ => ?_ | refine condNT fun _ => ?_ | refine condNF fun _ => ?_ | refine H.da (hc1 _ _ (by rfl)) ?_ | refine H.datw hc1 (by rfl) ?_ | refine H.datl hc1 (by rfl) ?_ | refine H.lw ?_ | refine H.ll ?_)); (conv => whnf))
  refine (catalogueBytes_ref H.data hs1 h60 hta).use ?_
  rintro v w ⟨r2, rfl, K⟩
  (have hKb := K.base; replace H := Rel.call H K)
  simp only [List.cons_append, List.nil_append] at H
  obtain ⟨V4, hV4, H, hr2⟩ := Rel.freezeF H (fun _ => rfl) (by decide)
  ((repeat ((conv => whnf); first | refine an ?_ | ((first | refine H.nwD ?_ | refine H.nw ?_); clear H; intro w _ H) | refine H.ce ?_ | refine H.db ?_ | refine ea ?_ | (refine H.st ?_; (conv => whnf); clear H; intro w H) | refine condT fun _ => ?_ | refine condF fun _ => ?_ | refine condNT fun _ => ?_ | refine condNF fun _ => ?_ | refine H.da (hc1 _ _ (by rfl)) ?_ | refine H.datw hc1 (by rfl) ?_ | refine H.datl hc1 (by rfl) ?_ | refine H.lw ?_ | refine H.ll ?_)); (conv => whnf))
  refine (bytes_ref H.data (hr.up (hV3.trans hV4)) hr2).use ?_
  rintro v w ⟨rfl, K⟩
  (have hKb := K.base; replace H := Rel.call H K)
  simp only [List.nil_append] at H
  rw [decide_eq_true (rfl : putL putE l = putL putE l)]
  ((repeat ((conv => whnf); first | refine an ?_ | ((first | refine H.nwD ?_ | refine H.nw ?_); clear H; intro w _ H) | refine H.ce ?_ | refine H.db ?_ | refine ea ?_ | (refine H.st ?_; (conv => whnf); clear H; intro w H) | refine condT fun _ => ?_ | refine condF fun _ => ?_ | refine condNT fun _ => ?_ | refine condNF fun _ => ?_ | refine H.da (hc1 _ _ (by rfl)) ?_ | refine H.datw hc1 (by rfl) ?_ | refine H.datl hc1 (by rfl) ?_ | refine H.lw ?_ | refine H.ll ?_)); (conv => whnf))
  refine (sameCatalogue_ref H.data (hs1.up hV4) (ht.up hV4) (by omega) (ent_lens hent)).use ?_
  rintro v w ⟨rfl, K⟩
  (have hKb := K.base; replace H := Rel.call H K)
  ((repeat ((conv => whnf); first | refine an ?_ | ((first | refine H.nwD ?_ | refine H.nw ?_); clear H; intro w _ H) | refine H.ce ?_ | refine H.db ?_ | refine ea ?_ | (refine H.st ?_; (conv => whnf); clear H; intro w H) | refine condT fun _ => ?_ | refine condF fun _ => ?_ | refine condNT fun _ => ?_ | refine condNF fun _ => ?_ | refine H.da (hc1 _ _ (by rfl)) ?_ | refine H.datw hc1 (by rfl) ?_ | refine H.datl hc1 (by rfl) ?_ | refine H.lw ?_ | refine H.ll ?_)); (conv => whnf))
  (first | exact H.base | exact ⟨by simp, H.base⟩ | exact ⟨rfl, H.base⟩)
end Go.Proofs.YtlhgmigoncmcaaaGreat
