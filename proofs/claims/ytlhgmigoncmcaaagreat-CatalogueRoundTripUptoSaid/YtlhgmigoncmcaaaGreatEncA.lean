/-
  The encoding of an entry.
-/
import Derived.Test.YtlhgmigoncmcaaaGreatWirC
import Derived.Test.YtlhgmigoncmcaaaGreatCatC
import Derived.Test.YtlhgmigoncmcaaaGreatVcV
import Derived.Test.YtlhgmigoncmcaaaGreatVcO
namespace Go.Proofs.YtlhgmigoncmcaaaGreat
open Go Go.RowKit

def putRef (r : RefD) : List UInt8 := putC r.name ++ putN r.ver
def putE (e : Ent) : List UInt8 := putC e.name ++ (putN e.ver ++ (putN e.kind ++ (putN e.day ++ (putN e.size ++ (digL e.sum ++ (putL putRef e.sources ++ (putL putC e.groups ++ (putN e.emb ++ (putN e.need ++ (putN e.keep ++ (putN e.csize ++ (digL e.csum ++ putL digL e.pieces))))))))))))
section
variable {V W : World}
theorem chunk_cat (hV : Sub V W) (l : List UInt8) (hl : l.length ≤ 1099511627000) : Ret Tryz.prog 41 [str l].toArray W fun v w' => ∃ r : Sl, v = r.v ∧ Rel W V [.row r 5 1 ((putC l).flatMap byC)] V w' := by
  have H := Rel.start hV
  refine cal_of_vc tabOk Tryz.func41 rfl (by kernel_rfl) 6 rfl (by simp) [0, 2] ?_
  ((repeat ((conv => whnf); first | refine an ?_ | ((first | refine H.nwD ?_ | refine H.nw ?_); clear H; intro w _ H) | refine H.ce ?_ | refine H.db ?_ | refine ea ?_ | (refine H.st ?_; (conv => whnf); clear H; intro w H) | refine condT fun _ => ?_ | refine condF fun _ => ?_ | refine condNT fun _ => ?_ | refine condNF fun _ => ?_ | refine H.lw ?_ | refine H.ll ?_)); (conv => whnf))
  refine Rel.convSB Tryz.underlying9 Tryz.underlying26 Tryz.underlying5 H l ?_
  clear H
  intro V1 s w he hV1 hs H
  ((repeat ((conv => whnf); first | refine an ?_ | ((first | refine H.nwD ?_ | refine H.nw ?_); clear H; intro w _ H) | refine H.ce ?_ | refine H.db ?_ | refine ea ?_ | (refine H.st ?_; (conv => whnf); clear H; intro w H) | refine condT fun _ => ?_ | refine condF fun _ => ?_ | refine condNT fun _ => ?_ | refine condNF fun _ => ?_ | refine H.lw ?_ | refine H.ll ?_)); (conv => whnf))
  refine (chunk_spec H.data hs hl).use ?_
  rintro v w ⟨r, rfl, K⟩
  replace H := H.call K
  ((repeat ((conv => whnf); first | refine an ?_ | ((first | refine H.nwD ?_ | refine H.nw ?_); clear H; intro w _ H) | refine H.ce ?_ | refine H.db ?_ | refine ea ?_ | (refine H.st ?_; (conv => whnf); clear H; intro w H) | refine condT fun _ => ?_ | refine condF fun _ => ?_ | refine condNT fun _ => ?_ | refine condNF fun _ => ?_ | refine H.lw ?_ | refine H.ll ?_)); (conv => whnf))
  exact ⟨r, rfl, H.back⟩
/-- a function that gives a row of its own gives what can be read -/
theorem oneOk_of {g : FuncId} {cap : List Value} {a : Value} {bs : List UInt8} (h : ∀ V1 W1, Sub V1 W1 → Sub V V1 → Ret Tryz.prog g (a :: cap).toArray W1 fun v w' => ∃ r : Sl, v = r.v ∧ Rel W1 V1 [.row r 5 1 (bs.flatMap byC)] V1 w') : OneOk V g cap a bs := by
  intro V1 W1 h1 h2
  refine (h V1 W1 h2 h1).mono ?_
  rintro v w ⟨r, rfl, K⟩
  obtain ⟨V2, hV2, K, hr⟩ := Rel.freezeF K (fun _ => rfl) (by decide)
  exact ⟨V2, r, hV2, rfl, hr, K⟩
theorem chunk_one (l : List UInt8) (hl : l.length ≤ 1099511627000) : OneOk V 41 [] (str l) (putC l) := oneOk_of fun _ _ h _ => chunk_cat h l hl
theorem ref_one (r : RefD) (hl : r.name.length ≤ 1099511626000) (hv : I64 r.ver) : OneOk V 44 [] (.agg (refC r).toArray) (putRef r) := oneOk_of fun V W hV _ => by
  have H := Rel.start hV
  have h1 := putN_len hv.1 hv.2
  have h2 := putN_len (n := r.name.length) (by omega) (by omega)
  refine cal_of_vc tabOk Tryz.func44 rfl (by kernel_rfl) 10 rfl (by simp) [0, 1, 2] ?_
  ((repeat ((conv => whnf); first | refine an ?_ | refine H.ce ?_ | refine H.db ?_ | refine ea ?_ | (refine H.st ?_; (conv => whnf); clear H; intro w H) | refine condT fun _ => ?_ | refine condF fun _ => ?_ | refine condNT fun _ => ?_ | refine condNF fun _ => ?_ | refine H.lw ?_ | refine H.ll ?_)); (conv => whnf))
  ((first | refine Rel.nwD H ?_ | refine Rel.nw H ?_); clear H; intro w b1 H)
  ((repeat ((conv => whnf); first | refine an ?_ | ((first | refine H.nwD ?_ | refine H.nw ?_); clear H; intro w _ H) | refine H.ce ?_ | refine H.db ?_ | refine ea ?_ | (refine H.st ?_; (conv => whnf); clear H; intro w H) | refine condT fun _ => ?_ | refine condF fun _ => ?_ | refine condNT fun _ => ?_ | refine condNF fun _ => ?_ | refine H.lw ?_ | refine H.ll ?_)); (conv => whnf))
  ((first | refine draw_vc (id := 1) tabOk mixed [2] [0, 1, 3, 4, 2, 5, 6, 7] (by kernel_rfl) ?_); intro w hdw; replace H := Rel.ext H hdw.ext)
  ((repeat ((conv => whnf); first | refine an ?_ | ((first | refine H.nwD ?_ | refine H.nw ?_); clear H; intro w _ H) | refine H.ce ?_ | refine H.db ?_ | refine ea ?_ | (refine H.st ?_; (conv => whnf); clear H; intro w H) | refine condT fun _ => ?_ | refine condF fun _ => ?_ | refine condNT fun _ => ?_ | refine condNF fun _ => ?_ | refine H.lw ?_ | refine H.ll ?_)); (conv => whnf))
  refine (chunk_cat H.data r.name (by omega)).use ?_
  rintro v w ⟨r1, rfl, K⟩
  (have hKb := K.base; replace H := Rel.call H K)
  ((repeat ((conv => whnf); first | refine an ?_ | ((first | refine H.nwD ?_ | refine H.nw ?_); clear H; intro w _ H) | refine H.ce ?_ | refine H.db ?_ | refine ea ?_ | (refine H.st ?_; (conv => whnf); clear H; intro w H) | refine condT fun _ => ?_ | refine condF fun _ => ?_ | refine condNT fun _ => ?_ | refine condNF fun _ => ?_ | refine H.lw ?_ | refine H.ll ?_)); (conv => whnf))
  refine (number_spec H.data hv).use ?_
  rintro v w ⟨r2, rfl, K⟩
  (have hKb := K.base; replace H := Rel.call H K)
  ((repeat ((conv => whnf); first | refine an ?_ | ((first | refine H.nwD ?_ | refine H.nw ?_); clear H; intro w _ H) | refine H.ce ?_ | refine H.db ?_ | refine ea ?_ | (refine H.st ?_; (conv => whnf); clear H; intro w H) | refine condT fun _ => ?_ | refine condF fun _ => ?_ | refine condNT fun _ => ?_ | refine condNF fun _ => ?_ | refine H.lw ?_ | refine H.ll ?_)); (conv => whnf))
  refine Rel.appB H (i := 0) rfl (by simp only [putC, List.length_append]; omega) ?_
  clear H
  intro rn w H
  ((repeat ((conv => whnf); first | refine an ?_ | ((first | refine H.nwD ?_ | refine H.nw ?_); clear H; intro w _ H) | refine H.ce ?_ | refine H.db ?_ | refine ea ?_ | (refine H.st ?_; (conv => whnf); clear H; intro w H) | refine condT fun _ => ?_ | refine condF fun _ => ?_ | refine condNT fun _ => ?_ | refine condNF fun _ => ?_ | refine H.lw ?_ | refine H.ll ?_)); (conv => whnf))
  exact ⟨rn, rfl, H.sx⟩
theorem raw_one (d : Dig) : OneOk V 47 [] (.agg (digC d).toArray) (digL d) := by
  intro V1 W1 _ hV
  have H := Rel.start hV
  refine cal_of_vc tabOk Tryz.func47 rfl (by kernel_rfl) 4 rfl (by simp) [0, 1, 2] ?_
  ((repeat ((conv => whnf); first | refine an ?_ | refine H.ce ?_ | refine H.db ?_ | refine ea ?_ | (refine H.st ?_; (conv => whnf); clear H; intro w H) | refine condT fun _ => ?_ | refine condF fun _ => ?_ | refine condNT fun _ => ?_ | refine condNF fun _ => ?_ | refine H.lw ?_ | refine H.ll ?_)); (conv => whnf))
  ((first | refine Rel.nwD H ?_ | refine Rel.nw H ?_); clear H; intro w b1 H)
  ((repeat ((conv => whnf); first | refine an ?_ | ((first | refine H.nwD ?_ | refine H.nw ?_); clear H; intro w _ H) | refine H.ce ?_ | refine H.db ?_ | refine ea ?_ | (refine H.st ?_; (conv => whnf); clear H; intro w H) | refine condT fun _ => ?_ | refine condF fun _ => ?_ | refine condNT fun _ => ?_ | refine condNF fun _ => ?_ | refine H.lw ?_ | refine H.ll ?_)); (conv => whnf))
  obtain ⟨V2, hV2, H, hb⟩ := H.freezeBlk
  exact ⟨V2, ⟨some ⟨b1, 0, none⟩, 32, 32⟩, hV2, rfl, Blk.byt (l := digL d) hb rfl, H⟩
theorem add_enc {w0 V0 w : World} {own : List Res} {b : Nat} {r s : Sl} {o : List UInt8} {l : List Int} (H : Rel w0 V0 (.blk b [r.v] 26 :: .row r 5 1 (o.flatMap byC) :: own) V w) (hs : SlF itC V s l) (hl : ∀ x ∈ l, I64 x) (hn : o.length + l.length * 10 ≤ 1099511627776) :
    Ret Tryz.prog 42 [s.v, .pointer (some ⟨b, 0, none⟩)].toArray w fun _ w' => ∃ r' : Sl, Rel w0 V0 (.blk b [r'.v] 26 :: .row r' 5 1 ((o ++ l.flatMap putN).flatMap byC) :: own) V w' := by
  have hlen := hs.len
  refine cal_of_vc tabOk Tryz.func42 rfl (by kernel_rfl) 16 rfl (by simp) [0, 1, 4, 5, 6, 7, 8] ?_
  ((repeat ((conv => whnf); first | refine an ?_ | ((first | refine H.nwD ?_ | refine H.nw ?_); clear H; intro w _ H) | refine H.ce ?_ | refine H.db ?_ | refine ea ?_ | (refine H.st ?_; (conv => whnf); clear H; intro w H) | refine condT fun _ => ?_ | refine condF fun _ => ?_ | refine condNT fun _ => ?_ | refine condNF fun _ => ?_ | refine H.lw ?_ | refine H.ll ?_)); (conv => whnf))
  refine loop_inv (S := Nat × Sl) tabOk [0, 1, 5, 6] (fun k => [(7, iv k.1)]) (fun k w' => k.1 ≤ l.length ∧ ((l.take k.1).flatMap putN).length ≤ k.1 * 10 ∧ Rel w0 V0 (.blk b [k.2.v] 26 :: .row k.2 5 1 ((o ++ (l.take k.1).flatMap putN).flatMap byC) :: own) V w') (fun k _ => l.length - k.1) (0, r) ?_
  (conv => whnf)
  refine ⟨(by repeat (first | exact trivial | refine ⟨rfl, ?_⟩)), ⟨by omega, by simp, by simpa using H⟩, ?_⟩
  clear H
  rintro ⟨k, r⟩ w ⟨hk, hkl, H⟩
  dsimp only at hk H hkl
  by_cases hlt : k < l.length
  rotate_left
  · ((repeat ((conv => whnf); first | refine an ?_ | ((first | refine H.nwD ?_ | refine H.nw ?_); clear H; intro w _ H) | refine H.ce ?_ | refine H.db ?_ | refine ea ?_ | (refine H.st ?_; (conv => whnf); clear H; intro w H) | refine condT fun _ => ?_ | refine condF fun _ => ?_ | refine condNT fun _ => ?_ | refine condNF fun _ => ?_ | refine H.lw ?_ | refine H.ll ?_)); (conv => whnf))
    rw [List.take_of_length_le (by omega)] at H
    exact ⟨r, H⟩
  have h64 := hl _ (List.getElem_mem hlt)
  have hpn := putN_len h64.1 h64.2
  obtain ⟨hp, hq⟩ := hs.at1 (g := iv) (fun _ => rfl) hlt
  ((repeat ((conv => whnf); first | refine an ?_ | ((first | refine H.nwD ?_ | refine H.nw ?_); clear H; intro w _ H) | refine H.ce ?_ | refine H.db ?_ | refine ea ?_ | (refine H.st ?_; (conv => whnf); clear H; intro w H) | refine condT fun _ => ?_ | refine condF fun _ => ?_ | refine condNT fun _ => ?_ | refine condNF fun _ => ?_ | refine H.lw ?_ | refine H.ll ?_)); (conv => whnf))
  ((first | refine draw_vc (id := 3) tabOk mixed [2] [0, 1, 2, 3, 4] (by kernel_rfl) ?_); intro w hdw; replace H := Rel.ext H hdw.ext)
  ((repeat ((conv => whnf); first | refine an ?_ | ((first | refine H.nwD ?_ | refine H.nw ?_); clear H; intro w _ H) | refine H.ce ?_ | refine H.db ?_ | refine ea ?_ | (refine H.st ?_; (conv => whnf); clear H; intro w H) | refine condT fun _ => ?_ | refine condF fun _ => ?_ | refine condNT fun _ => ?_ | refine condNF fun _ => ?_ | refine H.lw ?_ | refine H.ll ?_)); (conv => whnf))
  refine (number_spec H.data h64).use ?_
  rintro v w ⟨r1, rfl, K⟩
  (have hKb := K.base; replace H := Rel.call H K)
  simp only [List.cons_append, List.nil_append] at H
  ((repeat ((conv => whnf); first | refine an ?_ | ((first | refine H.nwD ?_ | refine H.nw ?_); clear H; intro w _ H) | refine H.ce ?_ | refine H.db ?_ | refine ea ?_ | (refine H.st ?_; (conv => whnf); clear H; intro w H) | refine condT fun _ => ?_ | refine condF fun _ => ?_ | refine condNT fun _ => ?_ | refine condNF fun _ => ?_ | refine H.lw ?_ | refine H.ll ?_)); (conv => whnf))
  refine Rel.appB H (i := 1) rfl (by simp only [List.length_append]; omega) ?_
  clear H
  intro rn w H
  rw [flat_next hlt] at H
  ((repeat ((conv => whnf); first | refine an ?_ | ((first | refine H.nwD ?_ | refine H.nw ?_); clear H; intro w _ H) | refine H.ce ?_ | refine H.db ?_ | refine ea ?_ | (refine H.st ?_; (conv => whnf); clear H; intro w H) | refine condT fun _ => ?_ | refine condF fun _ => ?_ | refine condNT fun _ => ?_ | refine condNF fun _ => ?_ | refine H.lw ?_ | refine H.ll ?_)); (conv => whnf))
  refine ⟨(by repeat (first | exact trivial | refine ⟨rfl, ?_⟩)), (k + 1, rn), (by repeat (first | exact trivial | refine ⟨rfl, ?_⟩)), ⟨by omega, ?_, H.sx⟩, by omega⟩
  rw [List.take_succ_eq_append_getElem hlt]
  simp only [List.flatMap_append, List.length_append, List.flatMap_cons, List.flatMap_nil, List.append_nil]
  omega
end
end Go.Proofs.YtlhgmigoncmcaaaGreat
namespace Go.Proofs.YtlhgmigoncmcaaaGreat
open Go Go.RowKit

theorem putC_len {b : List UInt8} (h : b.length ≤ 1099511627776) : (putC b).length ≤ 10 + b.length := by
  have := putN_len (n := b.length) (by omega) (by omega)
  rw [putC, List.length_append]
  omega
theorem flat_len_le {α : Type} {f : α → List UInt8} {m : Nat} : ∀ {l : List α}, (∀ x ∈ l, (f x).length ≤ m) → (l.flatMap f).length ≤ l.length * m
  | [], _ => by simp
  | x :: l, h => by
    have h1 := h x (by simp)
    have h2 := flat_len_le (l := l) fun y hy => h y (by simp [hy])
    simp only [List.flatMap_cons, List.length_append, List.length_cons, Nat.succ_mul]
    omega
theorem putL_len {α : Type} {f : α → List UInt8} {m : Nat} {l : List α} (hl : l.length ≤ 1099511627776) (h : ∀ x ∈ l, (f x).length ≤ m) : (putL f l).length ≤ 10 + l.length * m := by
  have := putN_len (n := l.length) (by omega) (by omega)
  have := flat_len_le h
  rw [putL, List.length_append]
  omega
theorem len4 {a b c d : Int} (ha : I64 a) (hb : I64 b) (hc : I64 c) (hd : I64 d) : ([a, b, c, d].flatMap putN).length ≤ 40 := by
  have h1 := putN_len ha.1 ha.2
  have h2 := putN_len hb.1 hb.2
  have h3 := putN_len hc.1 hc.2
  have h4 := putN_len hd.1 hd.2
  simp only [List.flatMap_cons, List.flatMap_nil, List.length_append, List.length_nil]
  omega
/-- an entry whose parts are small -/
structure Tame (e : Ent) : Prop where
  num : EntNum e
  name : e.name.length ≤ 1000
  so : e.sources.length ≤ 4
  sn : ∀ r ∈ e.sources, r.name.length ≤ 1000
  gr : e.groups.length ≤ 4
  gn : ∀ g ∈ e.groups, g.length ≤ 1000
  pi : e.pieces.length ≤ 86
theorem Tame.refs {e : Ent} (h : Tame e) : (putL putRef e.sources).length ≤ 4090 := by
  have := putL_len (f := putRef) (l := e.sources) (m := 1020) (by have := h.so; omega) fun r hr => by
    have h1 := h.sn r hr
    have h2 := h.num.srcs r hr
    have h3 := putN_len h2.1 h2.2
    have h4 := putC_len (b := r.name) (by omega)
    rw [putRef, List.length_append]
    omega
  have := h.so
  omega
theorem Tame.strs {e : Ent} (h : Tame e) : (putL putC e.groups).length ≤ 4090 := by
  have := putL_len (f := putC) (l := e.groups) (m := 1010) (by have := h.gr; omega) fun r hr => by
    have h1 := h.gn r hr
    have h4 := putC_len (b := r) (by omega)
    omega
  have := h.gr
  omega
theorem digL_len (d : Dig) : (digL d).length = 32 := by simp [digL]
theorem Tame.digs {e : Ent} (h : Tame e) : (putL digL e.pieces).length ≤ 2770 := by
  have := putL_len (f := digL) (l := e.pieces) (m := 32) (by have := h.pi; omega) fun r hr => by rw [digL_len]; omega
  have := h.pi
  omega
section
variable {w0 V0 V w : World} {own : List Res}
/-- a row of bytes grows by cells of any kind -/
theorem Rel.appC {i : Nat} {s x : Sl} {xs ys : List UInt8} (H : Rel w0 V0 own V w) (hi : own[i]? = some (.row s 5 1 (xs.flatMap byC))) (hx : Cells w x.a (ys.map bv)) (hxl : x.len = ys.length) (hb : xs.length + ys.length ≤ 1099511627776) {ty : TypeId} {k : Value → World → Prop}
    (hk : ∀ s' w', Rel w0 V0 (own.set i (.row s' 5 1 ((xs ++ ys).flatMap byC))) V w' → k s'.v w') : SemOk Tryz.prog (Builtin.append_ #[26, 26] ty #[s.v, x.v]) w k := by
  have hl := H.rowLen hi (fun _ => rfl) (by decide)
  rw [← byC_map] at hx
  refine Rel.appAt tabOk rfl rfl rfl rfl rfl (by decide) H hi hx (by rw [flat_len (n := 1) (fun _ => rfl), hxl]) flat_by_one (by rw [hl, hxl]; simp; omega) (by rw [hl, hxl]; omega) ?_
  intro s' w' H' _
  refine hk s' w' ?_
  rw [List.flatMap_append]
  exact H'
theorem Rel.partAt (H : Rel w0 V0 own V w) {i b o n : Nat} {c l : List Value} {t : TypeId} (hi : own[i]? = some (.blk b c t)) (hl : (c.drop o).take n = l) : Cells w (some ⟨b, o, none⟩) l :=
  ⟨fun _ => rfl, fun j v hj => H.ldbAt (o := o) (n := n) hi j v (by rw [hl]; exact hj)⟩
end
section
variable {V W : World}
set_option maxRecDepth 100000 in
set_option maxHeartbeats 400000 in
theorem encode_spec (hV : Sub V W) {e : Ent} {h : EntH} (hok : EntOk V e h) (ht : Tame e) : Ret Tryz.prog 20 [.agg (entC e h).toArray].toArray W fun v w' => ∃ r : Sl, v = r.v ∧ Rel W V [.row r 5 1 ((putE e).flatMap byC)] V w' := by
  have H := Rel.start hV
  have hrl := ht.refs
  have hsl := ht.strs
  have hdl := ht.digs
  have hna := ht.name
  have hcl := putC_len (b := e.name) (by omega)
  have hN := ht.num
  have d1 := digL_len e.sum
  have d2 := digL_len e.csum
  refine cal_of_vc tabOk Tryz.func20 rfl (by kernel_rfl) 57 rfl (by simp) [0, 1, 2, 3, 4] ?_
  ((repeat ((conv => whnf); first | refine an ?_ | refine H.ce ?_ | refine H.db ?_ | refine ea ?_ | (refine H.st ?_; (conv => whnf); clear H; intro w H) | refine condT fun _ => ?_ | refine condF fun _ => ?_ | refine condNT fun _ => ?_ | refine condNF fun _ => ?_ | refine H.lw ?_ | refine H.ll ?_)); (conv => whnf))
  ((first | refine Rel.nwD H ?_ | refine Rel.nw H ?_); clear H; intro w b1 H)
  ((repeat ((conv => whnf); first | refine an ?_ | ((first | refine H.nwD ?_ | refine H.nw ?_); clear H; intro w _ H) | refine H.ce ?_ | refine H.db ?_ | refine ea ?_ | (refine H.st ?_; (conv => whnf); clear H; intro w H) | refine condT fun _ => ?_ | refine condF fun _ => ?_ | refine condNT fun _ => ?_ | refine condNF fun _ => ?_ | refine H.lw ?_ | refine H.ll ?_)); (conv => whnf))
  refine (chunk_cat H.data e.name (by omega)).use ?_
  rintro v w ⟨r, rfl, K⟩
  replace H := H.call K
  ((repeat ((conv => whnf); first | refine an ?_ | refine H.ce ?_ | refine H.db ?_ | refine ea ?_ | (refine H.st ?_; (conv => whnf); clear H; intro w H) | refine condT fun _ => ?_ | refine condF fun _ => ?_ | refine condNT fun _ => ?_ | refine condNF fun _ => ?_ | refine H.lw ?_ | refine H.ll ?_)); (conv => whnf))
  ((first | refine Rel.nwD H ?_ | refine Rel.nw H ?_); clear H; intro w b3 H)
  ((repeat ((conv => whnf); first | refine an ?_ | refine H.ce ?_ | refine H.db ?_ | refine ea ?_ | (refine H.st ?_; (conv => whnf); clear H; intro w H) | refine condT fun _ => ?_ | refine condF fun _ => ?_ | refine condNT fun _ => ?_ | refine condNF fun _ => ?_ | refine H.lw ?_ | refine H.ll ?_)); (conv => whnf))
  ((first | refine Rel.nwD H ?_ | refine Rel.nw H ?_); clear H; intro w bt H)
  obtain ⟨V1, hV1, H, hb1⟩ := H.freezeBlk
  ((repeat ((conv => whnf); first | refine an ?_ | ((first | refine H.nwD ?_ | refine H.nw ?_); clear H; intro w _ H) | refine H.ce ?_ | refine H.db ?_ | refine ea ?_ | (refine H.st ?_; (conv => whnf); clear H; intro w H) | refine condT fun _ => ?_ | refine condF fun _ => ?_ | refine condNT fun _ => ?_ | refine condNF fun _ => ?_ | refine H.lw ?_ | refine H.ll ?_)); (conv => whnf))
  refine (add_enc (s := ⟨some ⟨bt, 0, none⟩, 4, 4⟩) (l := [e.ver, e.kind, e.day, e.size]) H ⟨rfl, Nat.le_refl _, hb1.cells⟩ (by simp; exact ⟨hN.ver, hN.kind, hN.day, hN.size⟩) (by simp; omega)).use ?_
  clear H
  rintro v w ⟨r, H⟩
  have l1 := len4 hN.ver hN.kind hN.day hN.size
  ((repeat ((conv => whnf); first | refine an ?_ | ((first | refine H.nwD ?_ | refine H.nw ?_); clear H; intro w _ H) | refine H.ce ?_ | refine H.db ?_ | refine ea ?_ | (refine H.st ?_; (conv => whnf); clear H; intro w H) | refine condT fun _ => ?_ | refine condF fun _ => ?_ | refine condNT fun _ => ?_ | refine condNF fun _ => ?_ | refine H.lw ?_ | refine H.ll ?_)); (conv => whnf))
  ((first | refine draw_vc (id := 4) tabOk mixed [] [0, 1, 2, 3, 4] (by kernel_rfl) ?_ | refine draw_vc (id := 5) tabOk mixed [3] [0, 1, 2, 3, 4, 5] (by kernel_rfl) ?_ | refine draw_vc (id := 6) tabOk mixed [3] [0, 1, 2, 3, 4, 5] (by kernel_rfl) ?_ | refine draw_vc (id := 8) tabOk mixed [] [0, 1, 2, 3, 4, 5] (by kernel_rfl) ?_ | refine draw_vc (id := 9) tabOk mixed [4] [0, 1, 2, 3, 4, 5, 6] (by kernel_rfl) ?_); intro w hdw; replace H := Rel.ext H hdw.ext)
  ((repeat ((conv => whnf); first | refine an ?_ | ((first | refine H.nwD ?_ | refine H.nw ?_); clear H; intro w _ H) | refine H.ce ?_ | refine H.db ?_ | refine ea ?_ | (refine H.st ?_; (conv => whnf); clear H; intro w H) | refine condT fun _ => ?_ | refine condF fun _ => ?_ | refine condNT fun _ => ?_ | refine condNF fun _ => ?_ | refine H.lw ?_ | refine H.ll ?_)); (conv => whnf))
  have hx : Cells w (some ⟨b1, 5, none⟩) ((digL e.sum).map bv) := Rel.partAt H (i := 2) (n := 32) rfl rfl
  refine Rel.appC (x := ⟨some ⟨b1, 5, none⟩, 32, 32⟩) (ys := digL e.sum) H (i := 1) rfl hx rfl (by simp only [List.length_append]; omega) ?_
  clear H
  intro r w H
  ((repeat ((conv => whnf); first | refine an ?_ | ((first | refine H.nwD ?_ | refine H.nw ?_); clear H; intro w _ H) | refine H.ce ?_ | refine H.db ?_ | refine ea ?_ | (refine H.st ?_; (conv => whnf); clear H; intro w H) | refine condT fun _ => ?_ | refine condF fun _ => ?_ | refine condNT fun _ => ?_ | refine condNF fun _ => ?_ | refine H.lw ?_ | refine H.ll ?_)); (conv => whnf))
  ((first | refine draw_vc (id := 4) tabOk mixed [] [0, 1, 2, 3, 4] (by kernel_rfl) ?_ | refine draw_vc (id := 5) tabOk mixed [3] [0, 1, 2, 3, 4, 5] (by kernel_rfl) ?_ | refine draw_vc (id := 6) tabOk mixed [3] [0, 1, 2, 3, 4, 5] (by kernel_rfl) ?_ | refine draw_vc (id := 8) tabOk mixed [] [0, 1, 2, 3, 4, 5] (by kernel_rfl) ?_ | refine draw_vc (id := 9) tabOk mixed [4] [0, 1, 2, 3, 4, 5, 6] (by kernel_rfl) ?_); intro w hdw; replace H := Rel.ext H hdw.ext)
  ((repeat ((conv => whnf); first | refine an ?_ | ((first | refine H.nwD ?_ | refine H.nw ?_); clear H; intro w _ H) | refine H.ce ?_ | refine H.db ?_ | refine ea ?_ | (refine H.st ?_; (conv => whnf); clear H; intro w H) | refine condT fun _ => ?_ | refine condF fun _ => ?_ | refine condNT fun _ => ?_ | refine condNF fun _ => ?_ | refine H.lw ?_ | refine H.ll ?_)); (conv => whnf))
  refine (slice_refs (enc := putRef) H.data (hok.so.up hV1) (fun x hx => ref_one x (by have := ht.sn x hx; omega) (hN.srcs x hx)) (by have := ht.so; omega) (by omega)).use ?_
  rintro v w ⟨r1, rfl, K⟩
  (have hKb := K.base; replace H := Rel.call H K)
  simp only [List.cons_append, List.nil_append] at H
  ((repeat ((conv => whnf); first | refine an ?_ | ((first | refine H.nwD ?_ | refine H.nw ?_); clear H; intro w _ H) | refine H.ce ?_ | refine H.db ?_ | refine ea ?_ | (refine H.st ?_; (conv => whnf); clear H; intro w H) | refine condT fun _ => ?_ | refine condF fun _ => ?_ | refine condNT fun _ => ?_ | refine condNF fun _ => ?_ | refine H.lw ?_ | refine H.ll ?_)); (conv => whnf))
  refine Rel.appB H (i := 1) rfl (by simp only [List.length_append]; omega) ?_
  clear H
  intro r w H
  ((repeat ((conv => whnf); first | refine an ?_ | ((first | refine H.nwD ?_ | refine H.nw ?_); clear H; intro w _ H) | refine H.ce ?_ | refine H.db ?_ | refine ea ?_ | (refine H.st ?_; (conv => whnf); clear H; intro w H) | refine condT fun _ => ?_ | refine condF fun _ => ?_ | refine condNT fun _ => ?_ | refine condNF fun _ => ?_ | refine H.lw ?_ | refine H.ll ?_)); (conv => whnf))
  ((first | refine draw_vc (id := 4) tabOk mixed [] [0, 1, 2, 3, 4] (by kernel_rfl) ?_ | refine draw_vc (id := 5) tabOk mixed [3] [0, 1, 2, 3, 4, 5] (by kernel_rfl) ?_ | refine draw_vc (id := 6) tabOk mixed [3] [0, 1, 2, 3, 4, 5] (by kernel_rfl) ?_ | refine draw_vc (id := 8) tabOk mixed [] [0, 1, 2, 3, 4, 5] (by kernel_rfl) ?_ | refine draw_vc (id := 9) tabOk mixed [4] [0, 1, 2, 3, 4, 5, 6] (by kernel_rfl) ?_); intro w hdw; replace H := Rel.ext H hdw.ext)
  ((repeat ((conv => whnf); first | refine an ?_ | ((first | refine H.nwD ?_ | refine H.nw ?_); clear H; intro w _ H) | refine H.ce ?_ | refine H.db ?_ | refine ea ?_ | (refine H.st ?_; (conv => whnf); clear H; intro w H) | refine condT fun _ => ?_ | refine condF fun _ => ?_ | refine condNT fun _ => ?_ | refine condNF fun _ => ?_ | refine H.lw ?_ | refine H.ll ?_)); (conv => whnf))
  refine (slice_strs (enc := putC) H.data (hok.gr.up hV1) (fun x hx => chunk_one x (by have := ht.gn x hx; omega)) (by have := ht.gr; omega) (by omega)).use ?_
  rintro v w ⟨r1, rfl, K⟩
  (have hKb := K.base; replace H := Rel.call H K)
  simp only [List.cons_append, List.nil_append] at H
  ((repeat ((conv => whnf); first | refine an ?_ | ((first | refine H.nwD ?_ | refine H.nw ?_); clear H; intro w _ H) | refine H.ce ?_ | refine H.db ?_ | refine ea ?_ | (refine H.st ?_; (conv => whnf); clear H; intro w H) | refine condT fun _ => ?_ | refine condF fun _ => ?_ | refine condNT fun _ => ?_ | refine condNF fun _ => ?_ | refine H.lw ?_ | refine H.ll ?_)); (conv => whnf))
  refine Rel.appB H (i := 1) rfl (by simp only [List.length_append]; omega) ?_
  clear H
  intro r w H
  ((repeat ((conv => whnf); first | refine an ?_ | refine H.ce ?_ | refine H.db ?_ | refine ea ?_ | (refine H.st ?_; (conv => whnf); clear H; intro w H) | refine condT fun _ => ?_ | refine condF fun _ => ?_ | refine condNT fun _ => ?_ | refine condNF fun _ => ?_ | refine H.lw ?_ | refine H.ll ?_)); (conv => whnf))
  ((first | refine Rel.nwD H ?_ | refine Rel.nw H ?_); clear H; intro w bt2 H)
  obtain ⟨V2, hV2, H, hb2⟩ := H.freezeBlk
  ((repeat ((conv => whnf); first | refine an ?_ | ((first | refine H.nwD ?_ | refine H.nw ?_); clear H; intro w _ H) | refine H.ce ?_ | refine H.db ?_ | refine ea ?_ | (refine H.st ?_; (conv => whnf); clear H; intro w H) | refine condT fun _ => ?_ | refine condF fun _ => ?_ | refine condNT fun _ => ?_ | refine condNF fun _ => ?_ | refine H.lw ?_ | refine H.ll ?_)); (conv => whnf))
  refine (add_enc (s := ⟨some ⟨bt2, 0, none⟩, 4, 4⟩) (l := [e.emb, e.need, e.keep, e.csize]) H ⟨rfl, Nat.le_refl _, hb2.cells⟩ (by simp; exact ⟨hN.emb, hN.need, hN.keep, hN.csize⟩) (by simp only [List.length_append, List.length_cons, List.length_nil]; omega)).use ?_
  clear H
  rintro v w ⟨r, H⟩
  have l2 := len4 hN.emb hN.need hN.keep hN.csize
  ((repeat ((conv => whnf); first | refine an ?_ | ((first | refine H.nwD ?_ | refine H.nw ?_); clear H; intro w _ H) | refine H.ce ?_ | refine H.db ?_ | refine ea ?_ | (refine H.st ?_; (conv => whnf); clear H; intro w H) | refine condT fun _ => ?_ | refine condF fun _ => ?_ | refine condNT fun _ => ?_ | refine condNF fun _ => ?_ | refine H.lw ?_ | refine H.ll ?_)); (conv => whnf))
  ((first | refine draw_vc (id := 4) tabOk mixed [] [0, 1, 2, 3, 4] (by kernel_rfl) ?_ | refine draw_vc (id := 5) tabOk mixed [3] [0, 1, 2, 3, 4, 5] (by kernel_rfl) ?_ | refine draw_vc (id := 6) tabOk mixed [3] [0, 1, 2, 3, 4, 5] (by kernel_rfl) ?_ | refine draw_vc (id := 8) tabOk mixed [] [0, 1, 2, 3, 4, 5] (by kernel_rfl) ?_ | refine draw_vc (id := 9) tabOk mixed [4] [0, 1, 2, 3, 4, 5, 6] (by kernel_rfl) ?_); intro w hdw; replace H := Rel.ext H hdw.ext)
  ((repeat ((conv => whnf); first | refine an ?_ | ((first | refine H.nwD ?_ | refine H.nw ?_); clear H; intro w _ H) | refine H.ce ?_ | refine H.db ?_ | refine ea ?_ | (refine H.st ?_; (conv => whnf); clear H; intro w H) | refine condT fun _ => ?_ | refine condF fun _ => ?_ | refine condNT fun _ => ?_ | refine condNF fun _ => ?_ | refine H.lw ?_ | refine H.ll ?_)); (conv => whnf))
  have hx : Cells w (some ⟨b1, 43, none⟩) ((digL e.csum).map bv) := Rel.partAt H (i := 2) (n := 32) rfl rfl
  refine Rel.appC (x := ⟨some ⟨b1, 43, none⟩, 32, 32⟩) (ys := digL e.csum) H (i := 1) rfl hx rfl (by simp only [List.length_append]; omega) ?_
  clear H
  intro r w H
  ((repeat ((conv => whnf); first | refine an ?_ | ((first | refine H.nwD ?_ | refine H.nw ?_); clear H; intro w _ H) | refine H.ce ?_ | refine H.db ?_ | refine ea ?_ | (refine H.st ?_; (conv => whnf); clear H; intro w H) | refine condT fun _ => ?_ | refine condF fun _ => ?_ | refine condNT fun _ => ?_ | refine condNF fun _ => ?_ | refine H.lw ?_ | refine H.ll ?_)); (conv => whnf))
  ((first | refine draw_vc (id := 4) tabOk mixed [] [0, 1, 2, 3, 4] (by kernel_rfl) ?_ | refine draw_vc (id := 5) tabOk mixed [3] [0, 1, 2, 3, 4, 5] (by kernel_rfl) ?_ | refine draw_vc (id := 6) tabOk mixed [3] [0, 1, 2, 3, 4, 5] (by kernel_rfl) ?_ | refine draw_vc (id := 8) tabOk mixed [] [0, 1, 2, 3, 4, 5] (by kernel_rfl) ?_ | refine draw_vc (id := 9) tabOk mixed [4] [0, 1, 2, 3, 4, 5, 6] (by kernel_rfl) ?_); intro w hdw; replace H := Rel.ext H hdw.ext)
  ((repeat ((conv => whnf); first | refine an ?_ | ((first | refine H.nwD ?_ | refine H.nw ?_); clear H; intro w _ H) | refine H.ce ?_ | refine H.db ?_ | refine ea ?_ | (refine H.st ?_; (conv => whnf); clear H; intro w H) | refine condT fun _ => ?_ | refine condF fun _ => ?_ | refine condNT fun _ => ?_ | refine condNF fun _ => ?_ | refine H.lw ?_ | refine H.ll ?_)); (conv => whnf))
  refine (slice_digs (enc := digL) H.data (hok.pi.up (hV1.trans hV2)) (fun x _ => raw_one x) (by have := ht.pi; omega) (by omega)).use ?_
  rintro v w ⟨r1, rfl, K⟩
  (have hKb := K.base; replace H := Rel.call H K)
  simp only [List.cons_append, List.nil_append] at H
  ((repeat ((conv => whnf); first | refine an ?_ | ((first | refine H.nwD ?_ | refine H.nw ?_); clear H; intro w _ H) | refine H.ce ?_ | refine H.db ?_ | refine ea ?_ | (refine H.st ?_; (conv => whnf); clear H; intro w H) | refine condT fun _ => ?_ | refine condF fun _ => ?_ | refine condNT fun _ => ?_ | refine condNF fun _ => ?_ | refine H.lw ?_ | refine H.ll ?_)); (conv => whnf))
  refine Rel.appB H (i := 1) rfl (by simp only [List.length_append]; omega) ?_
  clear H
  intro r w H
  ((repeat ((conv => whnf); first | refine an ?_ | ((first | refine H.nwD ?_ | refine H.nw ?_); clear H; intro w _ H) | refine H.ce ?_ | refine H.db ?_ | refine ea ?_ | (refine H.st ?_; (conv => whnf); clear H; intro w H) | refine condT fun _ => ?_ | refine condF fun _ => ?_ | refine condNT fun _ => ?_ | refine condNF fun _ => ?_ | refine H.lw ?_ | refine H.ll ?_)); (conv => whnf))
  refine ⟨r, rfl, ?_⟩
  have e1 : putE e = putC e.name ++ [e.ver, e.kind, e.day, e.size].flatMap putN ++ digL e.sum ++ putL putRef e.sources ++ putL putC e.groups ++ [e.emb, e.need, e.keep, e.csize].flatMap putN ++ digL e.csum ++ putL digL e.pieces := by
    simp [putE]
  rw [e1]
  exact Rel.back H.sx
end
end Go.Proofs.YtlhgmigoncmcaaaGreat
