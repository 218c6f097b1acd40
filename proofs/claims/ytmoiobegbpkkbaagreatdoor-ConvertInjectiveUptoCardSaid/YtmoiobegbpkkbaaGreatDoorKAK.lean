import Derived.Test.YtmoiobegbpkkbaaGreatDoorKAJ
import Derived.Lib.BytesEntry
import Derived.Lib.IndexEntry
import Derived.Shelf.Spec.DecodeRune
import Derived.Shelf.Bytes.SlTrimWalks
namespace Go.Proofs.YtmoiobegbpkkbaaGreatDoor
open Go Go.RowKit
set_option maxRecDepth 100000
set_option maxHeartbeats 8000000
def ak.ob (B:Nat):ak→Bool
 | .obj b o=>decide (b<B)&&rW o
 | _=>true
abbrev kF (D:Nat):ak:=.obj D (.deferred (some []))
abbrev Av (D:Nat):Deferred:={ target:=.collected D,args:=#[] }
theorem Gd {B:Nat} {Ds:List Nat} (h:∀D∈Ds,D<B):(Ds.map kF).all (ak.ob B)=true:=by
 rw [List.all_map,List.all_eq_true]
 intro D hD
 show (decide (D<B)&&rW _)=true
 rw [decide_eq_true (h D hD)]
 rfl
section
variable {w0 V0 V w:World} {own:List ak}
theorem Rel.Ee {B:Nat} (H:Rel w0 V0 own V w) (hc:own.all (ak.ob B)=true) (hB:w0.heap.size≤B) {w':World} (ht:Tw B w w'):Rel w0 V0 own V w':=by
 refine ⟨⟨ht.os.trans H.base.os,ht.tape.trans H.base.tape,ht.output.trans H.base.output,Nat.le_trans H.base.size ht.size,fun k hk=>(ht.low k aa).trans (H.base.block k hk)⟩,H.sub,H.old,fun r hr=>?_,H.new,H.hid,H.apart,⟨fun b c t f hb=>ht.bt _ _ _ _ (H.data.bt b c t f hb)⟩⟩
 have h1:=H.laid r hr
 have h2:=List.all_eq_true.1 hc r hr
 cases r with
 | al b l t=>exact bD.tw h1 ht
 | row s e sz xs=>exact Row.Lh h1 ht
 | obj b o =>
  simp only [ak.ob,Bool.and_eq_true,decide_eq_true_eq] at h2
  exact (ht.low b h2.1).trans h1
theorem Rel.SU (H:Rel w0 V0 own V w) {B:Nat} (hc:own.all (ak.ob B)=true) (hB:w0.heap.size≤B):∃X:List ak,Rel w0 V0 (own++X) V w∧∀w',(∀r∈X,r.laid w')→iD B w w':=by
 refine ⟨(List.range w.heap.size).filterMap (rU w B),⟨H.base,H.sub,H.old,?_,?_,?_,?_,H.data⟩,?_⟩
 ·intro r hr
  rcases List.mem_append.1 hr with hr|hr
  ·exact H.laid r hr
  ·obtain ⟨j,_,hj⟩:=List.mem_filterMap.1 hr
   obtain ⟨o,ho,_,_,rfl⟩:=ke hj
   exact ho
 ·intro r hr b hb
  rcases List.mem_append.1 hr with hr|hr
  ·exact H.new r hr b hb
  ·obtain ⟨j,_,hj⟩:=List.mem_filterMap.1 hr
   obtain ⟨o,ho,tL,_,rfl⟩:=ke hj
   cases hb
   omega
 ·intro r hr b hb
  rcases List.mem_append.1 hr with hr|hr
  ·exact H.hid r hr b hb
  ·obtain ⟨j,_,hj⟩:=List.mem_filterMap.1 hr
   obtain ⟨o,ho,tL,hn,rfl⟩:=ke hj
   cases hb
   intro c t f hv
   have:=H.data.bt _ _ _ _ hv
   rw [ho] at this
   cases this
   cases hn
 ·refine List.pairwise_append.2 ⟨H.apart,?_,fun r hr s hs b hb gu=>?_⟩
  ·rw [List.pairwise_filterMap]
   refine List.Pairwise.imp ?_ List.nodup_range
   intro i j pN r hr s hs b hb gu
   obtain ⟨o,ho,_,_,rfl⟩:=ke hr
   obtain ⟨o',gP,_,_,rfl⟩:=ke hs
   cases hb
   cases gu
   exact pN rfl
  ·obtain ⟨j,_,hj⟩:=List.mem_filterMap.1 hs
   obtain ⟨o,ho,tL,hn,rfl⟩:=ke hj
   cases gu
   have BE:=List.all_eq_true.1 hc r hr
   have hl:=H.laid r hr
   cases r with
   | obj b' o' =>
    simp only [ak.ob,Bool.and_eq_true,decide_eq_true_eq] at BE
    cases hb
    omega
   | al b' l t =>
    obtain ⟨c,t,f,hcell⟩:=ak.cell_of rfl hl hb
    rw [ho] at hcell
    cases hcell
    cases hn
   | row s e sz xs =>
    obtain ⟨c,t,f,hcell⟩:=ak.cell_of rfl hl hb
    rw [ho] at hcell
    cases hcell
    cases hn
 ·intro w' hX j o hj ho hn
  have hlt:=(Array.getElem?_eq_some_iff.1 ho).1
  have hno:rW o=true:=by
   cases o with
   | cells c t f=>exact absurd rfl (hn c t f)
   | _=>rfl
  exact hX (.obj j o) (List.mem_filterMap.2 ⟨j,List.mem_range.2 hlt,by simp [rU,ho,hj,hno]⟩)
theorem Rel.I8 {k:World→Prop} (hc:own.all ak.oc=true):∀ {Ds:List Nat} {w:World},Ds.Pairwise (fun a b=>b<a)→Rel w0 V0 (own++Ds.map kF) V w→(∀w',Rel w0 V0 own V w'→k w')→mR (Ds.map Av) w k
 | [],w,_,H,hk=>hk w (by simpa using H)
 | D::Ds,w,hp,H,hk=>by
  obtain ⟨h1,h2⟩:=List.pairwise_cons.1 hp
  have hm:ak.obj D (.deferred (some []))∈own++(D::Ds).map kF:=ae
  refine ⟨H.laid _ hm,fun w' ht=>Rel.I8 hc h2 (Rel.Ee (B:=D) (H.sl (own':=own++Ds.map kF) ?_) ?_ (H.new _ hm D rfl) ht) hk⟩
  ·exact (List.Sublist.refl own).append (List.sublist_cons_self _ _)
  ·rw [List.all_append,Gd h1,Bool.and_true,List.all_eq_true]
   intro r hr
   have:=List.all_eq_true.1 hc r hr
   cases r with
   | obj b o=>cases this
   | _=>rfl
end
theorem Sn {C:Cx} (hT:aQ C.P C.T) {c:Code} {env:Env} {ds:List Deferred} {w:World} {Q:dU} {S:Type} (ks:List Nat) (vars:S→Env) (D:S→List Deferred)
  (I:S→World→Prop) (μ:S→World→Nat) (s0:S) (hd0:ds=D s0)
  (h:iT env ks fun fw=>kq env (vars s0)∧I s0 w∧∀s w,I s w→dT C c (vars s++fw) (D s) w fun e au ds' w'=>(match e with
   | .normal=>kq au fw∧∃s',ds'=D s'∧kq au (vars s')∧I s' w'∧μ s' w'<μ s w
   | e=>Q e au ds' w')):aB C (.loop c) env ds w Q:=by
 obtain ⟨fw,hk,h0,hI,hr⟩:=lU h
 have app:∀ {e1 e2:Env} {t:Nat} {v:Value},get? (e1++e2) t=some v→get? e1 t=some v∨get? e2 t=some v:=by
  intro e1 e2 t v h
  induction e1 with
  | nil=>exact .inr h
  | cons p r ih =>
   obtain ⟨s,u⟩:=p
   simp only [List.cons_append,get?] at h ⊢
   cases e:Nat.beq s t with
   | true=>simp only [e] at h ⊢;exact .inl h
   | false=>simp only [e] at h ⊢;exact ih h
 refine ⟨fun a hs hn hd=>?_⟩
 refine LX (fun s a w=>a.tmps.size=C.n∧a.defers=D s∧Sat (vars s++fw) a.tmps∧I s w) μ s0
  ⟨hn,hd.trans hd0,fun t v h=>(app h).elim (fun h=>hs t v (l5 h0 t v h)) (fun h=>hs t v (hk t v h)),hI⟩ ?_
 rintro s a w ⟨hn,hd,hs,hI⟩
 refine wpIn_mono ((ma hT (hr s w hI)).out a hs hn hd) fun e a' w' ⟨h1,au,h2,h3⟩=>?_
 cases e with
 | normal =>
  obtain ⟨h8,s',h4,h5,h6,h7⟩:=h3
  exact ⟨s',⟨h1,h4,fun t v h=>(app h).elim (fun h=>h2 t v (l5 h5 t v h)) (fun h=>h2 t v (l5 h8 t v h)),h6⟩,h7⟩
 | _=>exact ⟨h1,au,h2,h3⟩
theorem Ur {C:Cx} (hT:aQ C.P C.T) (hro:C.r=none) {g:Operand} {ps:Array Tmp} {assign body:Code} {env:Env} {ds:List Deferred} {w:World} {Q:dU} {gf:Nat} {lb:List Value} {w0 V0 V:World}
  (hg:bf env g fun v=>v=.func (.func gf) #[] lb.toArray) {xs:List (List Value)} (hit:wb C.P gf lb xs (fun W=>Sub V W)) (hps:∀x∈xs,x.length=ps.size) (hpn:(ps.toList.all fun p=>decide (p<C.n))=true)
  {σ:Type} (own:Nat→σ→List ak) (hcell:∀k s,(own k s).all (ak.ob w.heap.size)=true) (F:Nat→σ→World→Prop)
  (s0:σ) {V1:World} (hV1:Sub V V1) (H:Rel w0 V0 (own 0 s0) V1 w) (hF:F 0 s0 V1)
  (pV:∀L k x W s V1,xs[k]?=some x→Sub V V1→F k s V1→Rel w0 V0 (own k s) V1 W→dT { C with r:=some L } assign (sr ps.toList x env) [] W fun e rf ds1 W1=>(match e with
   | .normal=>ds1=[]∧iD w.heap.size W W1∧∀W2,Tw w.heap.size W1 W2→dT { C with r:=some L } body rf [] W2 (DB w.heap.size W2 (fun W=>∃V1 s,Sub V V1∧F (k+1) s V1∧Rel w0 V0 (own (k+1) s) V1 W) (fun _ _=>False))
   | _=>False))
  (hdone:∀D W s V1,w.heap.size≤D→Sub V V1→F xs.length s V1→Rel w0 V0 (own xs.length s++[kF D]) V1 W→Q .normal env (Av D::ds) W) :
  aB C (.rangeFunc g ps assign body) env ds w Q:=by
 have hB:w0.heap.size≤w.heap.size:=H.base.size
 refine JZ hT hro hg hit hps hpn (fun k W=>∃V1 s,Sub V V1∧F k s V1∧Rel w0 V0 (own k s) V1 W) (fun _ _=>False) ?_ ?_ ?_ ⟨V1,s0,hV1,hF,H⟩ ?_ ?_ ?_
 ·rintro k W W' ⟨V1,s,h1,h2,h3⟩ ht
  exact ⟨V1,s,h1,h2,h3.Ee (hcell k s) hB ht⟩
 ·intro c W W' h _
  exact h
 ·rintro k W ⟨V1,s,h1,h2,h3⟩
  exact h1.trans h3.data
 ·rintro L k x W hx ⟨V1,s,h1,h2,h3⟩
  exact pV L k x W s V1 hx h1 h2 h3
 ·rintro D W hD hW ⟨V1,s,h1,h2,H⟩
  refine hdone D W s V1 hD h1 h2 ⟨H.base,H.sub,H.old,?_,?_,?_,?_,H.data⟩
  ·intro r hr
   rcases List.mem_append.1 hr with hr|hr
   ·exact H.laid r hr
   ·rw [List.mem_singleton.1 hr];exact hW
  ·intro r hr b hb
   rcases List.mem_append.1 hr with hr|hr
   ·exact H.new r hr b hb
   ·rw [List.mem_singleton.1 hr] at hb;cases hb;omega
  ·intro r hr b hb
   rcases List.mem_append.1 hr with hr|hr
   ·exact H.hid r hr b hb
   ·rw [List.mem_singleton.1 hr] at hb;cases hb
    intro c t f hv
    have:=H.data.bt _ _ _ _ hv
    rw [hW] at this
    cases this
  ·refine List.pairwise_append.2 ⟨H.apart,List.pairwise_singleton _ _,fun r hr s hs b hb gu=>?_⟩
   rw [List.mem_singleton.1 hs] at gu
   cases gu
   have BE:=List.all_eq_true.1 (hcell _ _) r hr
   have hl:=H.laid r hr
   cases r with
   | obj b' o' =>
    simp only [ak.ob,Bool.and_eq_true,decide_eq_true_eq] at BE
    cases hb
    omega
   | al b' l t =>
    obtain ⟨c,t,f,hcell⟩:=ak.cell_of rfl hl hb
    rw [hW] at hcell
    cases hcell
   | row s e sz xs =>
    obtain ⟨c,t,f,hcell⟩:=ak.cell_of rfl hl hb
    rw [hW] at hcell
    cases hcell
 ·rintro D c W hD hW h
  exact h.elim
theorem Es (L:Nat):∀i,i<(dR L).length↔i*16<L:=by
 induction L using Nat.strongRecOn with
 | ind L ih =>
  intro i
  by_cases h0:L=0
  ·subst h0;rw [XF];simp
  by_cases h16:L≤16
  ·rw [LD h0 h16];simp only [List.length_singleton];omega
  ·rw [LB aa,List.length_cons]
   cases i with
   | zero=>simp;omega
   | succ i =>
    have:=ih (L - 16) aa i
    omega
theorem XE {L:Nat}:∀ {k:Nat},k*16<L→(dR L)[k]?=some (min 16 (L - k*16)):=by
 induction L using Nat.strongRecOn with
 | ind L ih =>
  intro k hk
  by_cases h16:L≤16
  ·obtain rfl:k=0:=aa
   rw [LD aa h16]
   simp only [List.getElem?_cons_zero]
   congr 1
   omega
  ·rw [LB aa]
   cases k with
   | zero=>simp only [List.getElem?_cons_zero];congr 1;omega
   | succ k =>
    rw [List.getElem?_cons_succ,ih (L - 16) aa aa]
    congr 1
    omega
theorem LC (L:Nat):(dR L).length≤L:=by
 by_cases h0:(dR L).length=0
 ·omega
 ·have:=(Es L ((dR L).length - 1)).1 aa
  omega
theorem XG {S:List aT} {k:Nat} (h:k<S.length):fF (S.take (k+1))=fF (S.take k)++dR S[k].2.length:=by
 unfold fF
 rw [List.take_succ_eq_append_getElem h,List.flatMap_append]
 simp
theorem LF:∀ {S:List aT},(∀x∈S,x.2.length≤65536)→(fF S).length≤S.length*65536
 | [],_=>by simp [fF]
 | x::S,h=>by
  have:=LF (S:=S) fun y hy=>h y (by simp [hy])
  have h1:=h x ae
  have h2:=LC x.2.length
  have e:fF (x::S)=dR x.2.length++fF S:=by simp [fF]
  rw [e,List.length_append,List.length_cons,Nat.succ_mul]
  omega
section
variable {V W:World}
theorem Ua (hV:Sub V W) {s:Sl} {S:List aT} (hs:lu V s S) (hl:S.length≤1000) (hd:∀x∈S,x.2.length≤65536):aj Tryz.prog 259 [s.v].toArray W fun v w'=>∃(V':World) (r:Sl),Sub V V'∧Rel W V [] V' w'∧v=r.v∧aw ct V' r (ints (fF S)):=by
 have H:=Rel.start hV
 have j8:=hs.len
 obtain ⟨gs,hgs,hpw⟩:=hs
 have BO:=hpw.len
 refine eV Tryz.func259 24 [0,2,3,5,6,7,8,9,10,15,16] ?_
 refine wk ?_
 refine H.nA ?_;clear H;intro w b3 H
 refine wk ?_
 replace H:=H.bw 3 1
 refine Sn (S:=Nat×Sl×List Nat) ad [0,2,3,7,8,16] (fun q=>[(9,iv q.1)]) (fun q=>q.2.2.map Av) (fun q w'=>q.1≤S.length∧q.2.2.Pairwise (fun a b=>b<a)∧∃V3,Sub V V3∧Rel W V (.row q.2.1 3 1 ((ints (fF (S.take q.1))).flatMap ct)::.al b3 [q.2.1.v] 50::q.2.2.map kF) V3 w') (fun q _=>S.length - q.1) (0,⟨none,0,0⟩,[]) rfl ?_
 conv=>whnf
 refine ⟨sB,⟨aa,List.Pairwise.nil,V,Sub.refl _,H⟩,?_⟩
 clear H
 rintro ⟨kk,r0,Ds⟩ w ⟨kN,Bn,V3,ar,H⟩
 dsimp only at kN Bn H ⊢
 by_cases hlt:kk<S.length
 ·obtain ⟨p0,c0,c1⟩:=(hgs.up ar).dW (g:=fun h:Nat×Sl=>iv (h.1:Int)) (g':=fun h:Nat×Sl=>h.2.v) (fun _=>rfl) (i:=kk) aa
  have hR:=hpw.all kk _ _ (List.getElem?_eq_getElem aa) (List.getElem?_eq_getElem hlt)
  obtain ⟨x,hx⟩:∃x,x=gs[kk]'aa:=⟨_,rfl⟩
  obtain ⟨y,hy⟩:∃y,y=S[kk]:=⟨_,rfl⟩
  rw [←hx,←hy] at hR
  rw [←hx] at c0 c1
  have Zn:=hd y (by rw [hy];exact List.getElem_mem hlt)
  have Rq:=LF (S:=S.take kk) fun z hz=>hd z (List.mem_of_mem_take hz)
  rw [List.length_take] at Rq
  have dx:=XG hlt
  rw [←hy] at dx
  obtain ⟨xa,xs⟩:=x
  obtain ⟨_,hby⟩:=hR
  dsimp only at hby c0 c1
  have hbl:=hby.len
  refine wk ?_
  refine H.nA ?_;clear H;intro w b5 H
  refine H.wg ?_;clear H;intro w H
  refine (Au H.data xs (n:=16) ag).use ?_
  rintro v w ⟨b,c,rfl,V4,av,K,hb,hc⟩
  (replace H:=H.aq K)
  refine wk ?_
  have G9:∀D∈Ds,D<w.heap.size:=fun D hD=>(Array.getElem?_eq_some_iff.1 (H.laid (kF D) (by simp [hD]))).1
  have G8:=H.base.size
  have hcell:∀(b':Nat) (l':List Value) (t':TypeId) (r':Sl) (e' n':Nat) (c':List Value) (b2:Nat) (l2:List Value) (t2:TypeId),(ak.al b' l' t'::ak.row r' e' n' c'::ak.al b2 l2 t2::Ds.map kF).all (ak.ob w.heap.size)=true:=fun _ _ _ _ _ _ _ _ _ _=>by
   simp only [List.all_cons,Gd G9]
   rfl
  have jr:=ar.trans av
  refine Ur ad rfl (by (conv=>whnf)) (As (m:=(dR y.2.length).length) hb hc (hby.up jr) aa aa aa (Es y.2.length)) ?_ rfl (σ:=Sl)
   (fun k r=>.al b5 [iv (xa:Int),xs.v] 316::.row r 3 1 ((ints (fF (S.take kk)++(dR y.2.length).take k)).flatMap ct)::.al b3 [r.v] 50::Ds.map kF) (fun _ _=>hcell _ _ _ _ _ _ _ _ _ _)
   (fun _ _ _=>True) r0 (Sub.refl _) (by rw [List.take_zero,List.append_nil];exact H) trivial ?_ ?_
  ·intro z hz
   obtain ⟨i,_,rfl⟩:=List.mem_map.1 hz
   rfl
  ·clear H
   rintro L k z w r V5 hz aF _ H
   have hk:k<(dR y.2.length).length:=by
    have:=(List.getElem?_eq_some_iff.1 hz).1
    rwa [o9] at this
   rw [wJ hk] at hz
   cases hz
   have QP:=(Es y.2.length k).1 hk
   have Im:=XE QP
   have mO:=LC y.2.length
   conv=>whnf
   refine ⟨rfl,iD.refl _ _,fun w' iK=>?_⟩
   obtain ⟨X,H,hX⟩:=(H.Ee (hcell _ _ _ _ _ _ _ _ _ _) G8 iK).SU (hcell _ _ _ _ _ _ _ _ _ _) G8
   simp only [List.cons_append] at H
   clear iK
   generalize w'=w at H hX ⊢
   refine H.wg ?_;clear H;intro _ w H
   have rM:(dR y.2.length).take (k+1)=(dR y.2.length).take k++[(eW xs 16 k).len]:=by
    rw [List.take_succ_eq_append_getElem hk]
    rw [List.getElem?_eq_getElem hk] at Im
    rw [Option.some.inj Im]
    show _=_++[min 16 (xs.len - k*16)]
    rw [hbl]
   refine Rel.cy (f:=ct) (l:=ints (fF (S.take kk)++(dR y.2.length).take k)) (x:=(((eW xs 16 k).len:Nat):Int)) ad rfl rfl rfl rfl rfl ag (fun _=>rfl) (by simp [Value.oneCell']) H (by show ((ints (fF (S.take kk)++(dR y.2.length).take k)).length+1)*8≤_;simp only [List.length_map,List.length_append,List.length_take];omega) (by simp only [List.length_map,List.length_append,List.length_take];omega) ?_
   clear H
   intro r1 w H
   refine H.wg ?_;clear H;intro w H
   refine ⟨hX _ (fun r hr=>H.laid r (by simp [hr])),V5,r1,aF,trivial,?_⟩
   rw [rM,←List.append_assoc,show ints (fF (S.take kk)++(dR y.2.length).take k++[(eW xs 16 k).len])=ints (fF (S.take kk)++(dR y.2.length).take k)++[(((eW xs 16 k).len:Nat):Int)] by simp]
   exact H.sl (.cons_cons _ (.cons_cons _ (.cons_cons _ (List.sublist_append_left _ _))))
  ·clear H
   rintro D w r V5 hD aF _ H
   rw [o9,List.take_length] at H
   rw [←dx] at H
   refine wk ?_
   have H1:=(H.sl (List.Sublist.cons _ (List.Sublist.refl _))).perm (List.Perm.cons _ (List.Perm.cons _ (List.perm_append_singleton (kF D) (Ds.map kF))))
   exact ⟨sB,(kk+1,r,D::Ds),rfl,sB,⟨by dsimp only;omega,List.pairwise_cons.2 ⟨fun D' PQ=>by have:=G9 D' PQ;omega,Bn⟩,V5,jr.trans aF,H1⟩,by dsimp only;omega⟩
 ·obtain rfl:kk=S.length:=aa
  rw [List.take_length] at H
  obtain ⟨V4,av,H,hr⟩:=Rel.aJ H (fun _=>rfl) ag
  refine wk ?_
  refine Rel.I8 (own:=[.al b3 [r0.v] 50]) rfl Bn H fun w' H=>?_
  refine wk ?_
  exact ⟨V4,r0,ar.trans av,H.sx,rfl,hr⟩
end
theorem vy {V W:World} (hV:Sub V W) {s:Sl} {l:List Int} (hs:aw ct V s l) {g:FuncId} {cap:List Value} {enc:Int→List UInt8} (hone:∀x∈l,nu V g cap (iv x) (enc x)) (hll:l.length≤1099511627776) (hb:(bj enc l).length≤1099511627776) :
  aj Tryz.prog 235 [s.v,.func (.func g) #[] cap.toArray].toArray W fun v w'=>∃r:Sl,v=r.v∧Rel W V [.row r 5 1 ((bj enc l).flatMap ay)] V w':=by
 have H:=Rel.start hV
 have hlen:=hs.len
 rw [bj,List.length_append] at hb
 refine eV Tryz.func235 24 [0,1,4,5,7,11,12,13,14] ?_
 refine wk ?_
 rw [hlen]
 refine (eQ (n:=l.length) H.data (by constructor<;>omega)).use ?_
 rintro v w ⟨r0,rfl,K⟩
 replace H:=H.call K
 refine wk ?_
 refine aK (S:=Nat×Sl) ad [0,1,4,11,12] (fun k=>[(5,k.2.v),(13,iv k.1)]) (fun k w'=>k.1≤l.length∧∃V1,Sub V V1∧Rel W V [.row k.2 5 1 ((ax l.length++(l.take k.1).flatMap enc).flatMap ay)] V1 w') (fun k _=>l.length - k.1) (0,r0) ?_
 conv=>whnf
 refine ⟨sB,⟨aa,V,Sub.refl _,by simpa using H⟩,?_⟩
 clear H
 rintro ⟨k,r⟩ w ⟨hk,V1,hV1,H⟩
 dsimp only at hk H
 by_cases hlt:k<l.length
 rotate_left
 ·refine wk ?_
  rw [List.take_of_length_le aa] at H
  exact ⟨r,rfl,H.back⟩
 have hbl:=xf (enc:=enc) hlt
 obtain ⟨hp,hq⟩:=(hs.up hV1).aP (g:=iv) (fun _=>rfl) hlt
 refine wk ?_
 refine (hone l[k] (List.getElem_mem hlt) V1 w hV1 H.data).use ?_
 rintro v w ⟨V2,x,hV2,rfl,hx,K⟩
 replace H:=H.call K
 simp only [List.nil_append] at H
 refine wk ?_
 refine Rel.gn H (i:=0) rfl hx (by simp only [List.length_append];omega) ?_
 clear H
 intro rn w H
 rw [xe hlt] at H
 refine wk ?_
 exact ⟨sB,(k+1,rn),sB,⟨aa,V2,hV1.trans hV2,H.sx⟩,aa⟩
section
variable {V W:World}
theorem u9 (z:Int) (hz:bI z):nu V 196 [] (iv z) (ax z):=yB fun V1 W1 hV dY=>eQ hV hz
end
section
variable {V W:World}
theorem O2 (hV:Sub V W) {x y:Sl} {a b:List Int} (hx:aw ct V x a) (hy:aw ct V y b) (ha:a.length≤1099511627776):aj Tryz.prog 258 [x.v,y.v].toArray W fun v w'=>v=.bool (decide (a=b))∧Rel W V [] V w':=by
 have H:=Rel.start hV
 have h1:=hx.len
 have h2:=hy.len
 refine eV Tryz.func258 26 [0,1,4,5,10,12,13,14,24] ?_
 by_cases hl:a.length=b.length
 rotate_left
 ·refine wk ?_
  rw [decide_eq_false (fun h=>hl (by rw [h]))]
  exact ⟨rfl,H⟩
 refine wk ?_
 refine aK (S:=Nat) ad [0,1,10,12] (fun k=>[(13,iv k)]) (fun k w'=>k≤a.length∧a.take k=b.take k∧Rel W V [] V w') (fun k _=>a.length - k) 0 ?_
 conv=>whnf
 refine ⟨sB,⟨aa,rfl,H⟩,?_⟩
 clear H
 rintro k w ⟨hk,hz,H⟩
 by_cases pQ:k<a.length
 rotate_left
 ·rw [List.take_of_length_le aa,List.take_of_length_le aa] at hz
  refine wk ?_
  rw [decide_eq_true hz]
  exact ⟨rfl,H⟩
 have um:k<b.length:=aa
 obtain ⟨hp,hc⟩:=hx.aP (g:=iv) (fun _=>rfl) pQ
 obtain ⟨xU,hc'⟩:=hy.aP (g:=iv) (fun _=>rfl) um
 have ta:=List.take_succ_eq_append_getElem pQ
 have tb:=List.take_succ_eq_append_getElem um
 by_cases he:a[k]=b[k]
 ·rw [he] at hc ta
  refine wk ?_
  refine dV 6 [] [0,1,2,3,4,5,6,7,8] H ?_;clear H;intro w H
  refine wk ?_
  exact ⟨sB,k+1,sB,⟨aa,by rw [ta,tb,hz],H.sx⟩,aa⟩
 ·have hne:a≠b:=fun h=>he (by subst h;rfl)
  generalize a[k]=u at hc he
  generalize b[k]=v at hc' he
  refine wk ?_
  refine dV 6 [] [0,1,2,3,4,5,6,7,8] H ?_;clear H;intro w H
  refine wk ?_
  rw [decide_eq_false hne]
  exact ⟨rfl,H.sx⟩
theorem ID {a b:List Nat}:ints a=ints b↔a=b:=by
 constructor
 ·intro h
  have:=congrArg (List.map Int.toNat) h
  rwa [Ct,Ct] at this
 ·intro h;rw [h]
theorem U1 (hV:Sub V W) {fl:Nat} (hf:fl<4) {sg sz:Sl} {S:List aT} {Z:List Nat} (hs:lu V sg S) (hz:aw ct V sz (ints Z)) (tT:S.length≤1000) (pA:Z.length≤1000) (hZ:∀n∈Z,n≤255) (hd:∀x∈S,x.2.length≤65536) :
  aj Tryz.prog 168 [.agg [sg.v,sz.v,iv (fl:Int)].toArray].toArray W fun v w'=>∃(V':World) (r:Sl),Sub V V'∧Rel W V [] V' w'∧v=r.v∧ao V' r (fx fl (fR S Z)):=by
 have H:=Rel.start hV
 have p7:=hz.len
 rw [List.length_map] at p7
 refine eV Tryz.func168 25 [0,1,2,3,10,18] ?_
 refine wk ?_
 refine H.nA ?_;clear H;intro w b1 H
 refine wk ?_
 refine (Ua H.data hs tT hd).use ?_
 rintro v w ⟨V2,r,hV2,K,rfl,hr⟩
 (replace H:=H.aq K)
 refine wk ?_
 refine (O2 H.data (hz.up hV2) hr (by rw [List.length_map];omega)).use ?_
 rintro v w ⟨rfl,K⟩
 (replace H:=H.aq K)
 by_cases he:Z=fF S
 ·rw [decide_eq_true (ID.2 he)]
  have e:fR S Z=[]:=by unfold fR;rw [if_pos he]
  rw [e]
  refine wk ?_
  by_cases h1:fl=0
  ·have e:fx fl []=[]:=by unfold fx;rw [if_pos ⟨h1,rfl⟩]
   rw [e]
   refine wk ?_
   exact ⟨V2,⟨none,0,0⟩,hV2,H.sx,rfl,aw.nil _ _⟩
  have e:fx fl []=ax fl++bj ax (ints []):=by unfold fx;rw [if_neg fun q=>h1 q.1]
  rw [e]
  have hpl:=Dc (Z:=[]) ae ae
  have hpn:=cD (n:=(fl:Int)) aa aa
  refine wk ?_
  refine (eQ (n:=(fl:Int)) H.data (by constructor<;>omega)).use ?_
  rintro v w ⟨r1,rfl,K⟩
  (replace H:=Rel.call H K)
  simp only [List.cons_append,List.nil_append] at H
  refine wk ?_
  refine (vy (l:=ints ([]:List Nat)) (enc:=ax) H.data (aw.nil _ _) (fun z hz=>u9 z ?_) (by first|(simp only [List.length_map];have:=(show ([]:List Nat).length≤1000 by simp);omega)|simp) aa).use ?_
  ·obtain ⟨n,hn,rfl⟩:=List.mem_map.1 hz
   have:=(fun (n:Nat) (hn:n∈([]:List Nat))=>(by simp at hn:n≤255)) n hn
   constructor<;>omega
  rintro v w ⟨r2,rfl,K⟩
  (replace H:=Rel.call H K)
  simp only [List.cons_append,List.nil_append] at H
  refine wk ?_
  refine Rel.cQ H (i:=0) rfl aa ?_
  clear H
  intro rn w H
  simp only [List.set_cons_zero] at H
  obtain ⟨V3,ar,H,bB⟩:=Rel.aJ H (fun _=>rfl) ag
  refine wk ?_
  exact ⟨V3,rn,hV2.trans ar,H.sx,rfl,bB⟩
 ·rw [decide_eq_false (fun q=>he (ID.1 q))]
  have e:fR S Z=Z:=by unfold fR;rw [if_neg he]
  rw [e]
  refine wk ?_
  by_cases h0:fl=0∧Z=[]
  ·have e:fx fl Z=[]:=by unfold fx;rw [if_pos h0]
   obtain ⟨h1,h2⟩:=h0
   have h3:Z.length=0:=by rw [h2];rfl
   rw [e]
   refine wk ?_
   exact ⟨V2,⟨none,0,0⟩,hV2,H.sx,rfl,aw.nil _ _⟩
  have e:fx fl Z=ax fl++bj ax (ints Z):=by unfold fx;rw [if_neg h0]
  rw [e]
  have hpl:=Dc (Z:=Z) pA hZ
  have hpn:=cD (n:=(fl:Int)) aa aa
  by_cases h1:fl=0
  ·have h3:Z.length≠0:=fun q=>h0 ⟨h1,List.eq_nil_of_length_eq_zero q⟩
   refine wk ?_
   refine (eQ (n:=(fl:Int)) H.data (by constructor<;>omega)).use ?_
   rintro v w ⟨r1,rfl,K⟩
   (replace H:=Rel.call H K)
   simp only [List.cons_append,List.nil_append] at H
   refine wk ?_
   refine (vy (l:=ints Z) (enc:=ax) H.data (hz.up hV2) (fun z hz=>u9 z ?_) (by first|(simp only [List.length_map];have:=pA;omega)|simp) aa).use ?_
   ·obtain ⟨n,hn,rfl⟩:=List.mem_map.1 hz
    have:=hZ n hn
    constructor<;>omega
   rintro v w ⟨r2,rfl,K⟩
   (replace H:=Rel.call H K)
   simp only [List.cons_append,List.nil_append] at H
   refine wk ?_
   refine Rel.cQ H (i:=0) rfl aa ?_
   clear H
   intro rn w H
   simp only [List.set_cons_zero] at H
   obtain ⟨V3,ar,H,bB⟩:=Rel.aJ H (fun _=>rfl) ag
   refine wk ?_
   exact ⟨V3,rn,hV2.trans ar,H.sx,rfl,bB⟩
  ·refine wk ?_
   refine (eQ (n:=(fl:Int)) H.data (by constructor<;>omega)).use ?_
   rintro v w ⟨r1,rfl,K⟩
   (replace H:=Rel.call H K)
   simp only [List.cons_append,List.nil_append] at H
   refine wk ?_
   refine (vy (l:=ints Z) (enc:=ax) H.data (hz.up hV2) (fun z hz=>u9 z ?_) (by first|(simp only [List.length_map];have:=pA;omega)|simp) aa).use ?_
   ·obtain ⟨n,hn,rfl⟩:=List.mem_map.1 hz
    have:=hZ n hn
    constructor<;>omega
   rintro v w ⟨r2,rfl,K⟩
   (replace H:=Rel.call H K)
   simp only [List.cons_append,List.nil_append] at H
   refine wk ?_
   refine Rel.cQ H (i:=0) rfl aa ?_
   clear H
   intro rn w H
   simp only [List.set_cons_zero] at H
   obtain ⟨V3,ar,H,bB⟩:=Rel.aJ H (fun _=>rfl) ag
   refine wk ?_
   exact ⟨V3,rn,hV2.trans ar,H.sx,rfl,bB⟩
end
abbrev s8 (V:World) (h:VH) (s:aT):Prop:=bc V h (oC s)
theorem Kt:∀(V V':World) (x:VH) (y:aT),Sub V V'→s8 V x y→s8 V' x y:=fun _ _ _ _ k h=>h.up k
theorem QB {V:World} {s:Sl} {hs:List VH} {S:List aT} (h1:aw br V s hs) (h2:Pw s8 V hs S):bc V ⟨3,0,⟨none,0,0⟩,⟨none,0,0⟩,s⟩ (ju S) :=
 .mk hs rfl rfl (aw.nil _ _) (aw.nil _ _) h1 (by show hs.length=(S.map oC).length;rw [h2.len,List.length_map]) fun i x p hx hp=>by
  have hp:(S.map oC)[i]?=some p:=hp
  rw [List.getElem?_map] at hp
  cases hS:S[i]? with
  | none=>rw [hS] at hp;cases hp
  | some y =>
   rw [hS] at hp
   cases hp
   exact h2.all i x y hx hS
theorem VC {V:World} {a:Nat} {d:List UInt8} {sn sp xs:Sl} (h1:aw oK V sn [zh,zi]) (h2:aw br V sp [gz (a:Int),eU xs]) (h3:ao V xs d):s8 V ⟨4,0,⟨none,0,0⟩,sn,sp⟩ (a,d) :=
 Et h1 h2 rfl fun i x p hx hp=>by
  match i,hx,hp with
  | 0,hx,hp=>cases hx;cases hp;exact sO _ _
  | 1,hx,hp=>cases hx;cases hp;exact qB h3
  | i+2,hx,hp=>simp at hx
section
variable {V W:World}
theorem Tf (hV:Sub V W):aj Tryz.prog 257 [].toArray W fun v w'=>∃(V':World) (s:Sl),Sub V V'∧Rel W V [] V' w'∧v=s.v∧aw oK V' s [zh,zi]:=by
 have H:=Rel.start hV
 refine eV Tryz.func257 2 [0] ?_
 refine wk ?_
 refine H.nA ?_;clear H;intro w b1 H
 obtain ⟨V2,hV2,H,hb⟩:=H.bJ
 refine wk ?_
 exact ⟨V2,⟨some ⟨b1,0,none⟩,2,2⟩,hV2,H.sx,rfl,rfl,Nat.le_refl _,hb.cells⟩
theorem Ub (hV:Sub V W) {s:Sl} {S:List aT} (hs:lu V s S) (hl:S.length≤1000):aj Tryz.prog 167 [s.v].toArray W fun v w'=>∃(V':World) (h:VH),Sub V V'∧Rel W V [] V' w'∧v=fG h∧bc V' h (ju S):=by
 have H:=Rel.start hV
 have j8:=hs.len
 obtain ⟨gs,hgs,hpw⟩:=hs
 have BO:=hpw.len
 refine eV Tryz.func167 31 [0,2,3,5,6,8,9,10,11] ?_
 refine wk ?_
 refine H.nA ?_;clear H;intro w b2 H
 refine wk ?_
 refine H.nA ?_;clear H;intro w b3 H
 refine H.wg ?_;clear H;intro w H
 replace H:=H.bw 27 5
 refine aK (S:=Nat×Sl×List VH) ad [0,2,3,8,9] (fun q=>[(10,iv q.1)]) (fun q w'=>q.1≤S.length∧∃V3,Sub V V3∧Pw s8 V3 q.2.2 (S.take q.1)∧Rel W V [.row q.2.1 27 5 (q.2.2.flatMap br),.al b3 [iv 3,iv 0,.slice none 0 0,.slice none 0 0,q.2.1.v] 27,.al b2 (br cw) 27] V3 w') (fun q _=>S.length - q.1) (0,⟨none,0,0⟩,[]) ?_
 conv=>whnf
 refine ⟨sB,⟨aa,V,Sub.refl _,Pw.nil,H⟩,?_⟩
 clear H
 rintro ⟨kk,pr,hh⟩ w ⟨kN,V3,ar,hP,H⟩
 dsimp only at kN hP H ⊢
 by_cases hlt:kk<S.length
 ·obtain ⟨p0,c0,c1⟩:=(hgs.up ar).dW (g:=fun h:Nat×Sl=>iv (h.1:Int)) (g':=fun h:Nat×Sl=>h.2.v) (fun _=>rfl) (i:=kk) aa
  have hR:=hpw.all kk _ _ (List.getElem?_eq_getElem aa) (List.getElem?_eq_getElem hlt)
  obtain ⟨x,hx⟩:∃x,x=gs[kk]'aa:=⟨_,rfl⟩
  obtain ⟨y,hy⟩:∃y,y=S[kk]:=⟨_,rfl⟩
  rw [←hx,←hy] at hR
  rw [←hx] at c0 c1
  have hst:=List.take_succ_eq_append_getElem hlt
  rw [←hy] at hst
  obtain ⟨xa,xs⟩:=x
  obtain ⟨ya,yd⟩:=y
  obtain ⟨x8,hby⟩:=hR
  dsimp only at hby x8 c0 c1
  subst x8
  have hpl:=hP.len
  rw [List.length_take] at hpl
  refine wk ?_
  refine H.nA ?_;clear H;intro w b5 H
  refine H.wh ?_;clear H;intro w H
  refine H.nA ?_;clear H;intro w b6 H
  obtain ⟨V4,av,H,Qa⟩:=H.bJ
  refine wk ?_
  refine dV 6 [2,5] [0,1,3,2,4,5,6,7,8] H ?_;clear H;intro w H
  refine wk ?_
  refine (Tf H.data).use ?_
  rintro v w ⟨V5,sn,aF,K,rfl,dx⟩
  (replace H:=H.aq K)
  refine H.wg ?_;clear H;intro _ w H
  refine Rel.cy (f:=br) (l:=hh) (x:=⟨4,0,⟨none,0,0⟩,sn,⟨some ⟨b6,0,none⟩,2,2⟩⟩) ad rfl rfl rfl rfl rfl ag (fun _=>rfl) (by simp [Value.oneCell']) H (by show (hh.length+1)*88≤_;omega) aa ?_
  clear H
  intro Uh w H
  refine H.wg ?_;clear H;intro w H
  have Bu:=av.trans aF
  refine ⟨sB,(kk+1,Uh,hh++[⟨4,0,⟨none,0,0⟩,sn,⟨some ⟨b6,0,none⟩,2,2⟩⟩]),sB,⟨by dsimp only;omega,V5,ar.trans Bu,?_,H.sx⟩,by dsimp only;omega⟩
  dsimp only
  rw [hst]
  exact (hP.up Kt Bu).snoc (VC dx ⟨rfl,Nat.le_refl _,Qa.cells.sG aF⟩ (hby.up (ar.trans Bu)))
 ·obtain rfl:kk=S.length:=aa
  rw [List.take_length] at hP
  obtain ⟨V4,av,H,hr⟩:=Rel.aJ H (fun _=>rfl) ag
  refine H.wg ?_;clear H;intro w H
  exact ⟨V4,⟨3,0,⟨none,0,0⟩,⟨none,0,0⟩,pr⟩,ar.trans av,H.sx,rfl,QB hr (hP.up Kt av)⟩
end
section
variable {V W:World}
theorem WS (hV:Sub V W) (hM:nt V) {s:Sl} {l:List UInt8} (hs:ao V s l) (hl:l.length≤1099511627776):aj Tryz.prog 70 [s.v].toArray W (gZ W V (aU (eZ l) l.length)):=by
 have H:=Rel.start hV
 have hlen:=hs.len
 refine eV Tryz.func70 38 [0,2,3,4,5,6,7,8,11,14,15,23,30] ?_
 refine wk ?_
 refine H.nA ?_;clear H;intro w b2 H
 refine wk ?_
 refine H.nA ?_;clear H;intro w b4 H
 by_cases bR:1000<l.length
 ·have e:aU (eZ l) l.length=⟨zeroV,[],3, -1⟩:=by unfold aU;rw [if_pos bR]
  rw [e]
  refine wk ?_
  refine (GB H.data 3 (-1)).use ?_
  rintro v w ⟨rfl,K⟩
  (replace H:=H.aq K)
  refine H.wg ?_;clear H;intro _ w H
  exact ⟨V,cw,⟨none,0,0⟩,Sub.refl _,H.sx,rfl,gG _,aw.nil _ _⟩
 refine wk ?_
 refine aK (S:=Nat) ad [0,2,4,11] (fun f=>[(14,iv f)]) (fun f w'=>f≤4∧(∀g,g<f→fY g l=none)∧∃V2,Sub V V2∧Rel W V [.al b4 [iv 0,iv 0] 31,.al b2 (br cw) 27] V2 w') (fun f _=>4 - f) 0 ?_
 conv=>whnf
 refine ⟨sB,⟨aa,fun g hg=>by omega,V,Sub.refl _,H⟩,?_⟩
 clear H
 rintro f w ⟨HP,hno,V2,hV2,H⟩
 by_cases hf:f<4
 rotate_left
 ·obtain rfl:f=4:=aa
  have e:aU (eZ l) l.length=⟨zeroV,[],21, -1⟩:=by unfold aU;rw [if_neg bR,Qz hno]
  rw [e]
  refine wk ?_
  refine (GB H.data 21 (-1)).use ?_
  rintro v w ⟨rfl,K⟩
  (replace H:=H.aq K)
  refine H.wg ?_;clear H;intro _ w H
  exact ⟨V2,cw,⟨none,0,0⟩,hV2,H.sx,rfl,gG _,aw.nil _ _⟩
 refine wk ?_
 refine (UJ H.data (hM.up hV2) (hs.up hV2) aa hf).use ?_
 rintro v w ⟨V3,sg,sz,c,k,ar,K,rfl,hres⟩
 (replace H:=H.aq K)
 refine wk ?_
 refine H.nA ?_;clear H;intro w b6 H
 have dm:=hV2.trans ar
 cases hr:pJ f l with
 | none =>
  rw [hr] at hres
  obtain rfl:=hres
  have hone:fY f l=none:=by unfold fY;rw [hr]
  refine H.wg ?_;clear H;intro w H
  exact ⟨sB,f+1,sB,⟨aa,fun g hg=>by
   by_cases e:g=f
   ·rw [e];exact hone
   ·exact hno g aa,V3,dm,H.sx⟩,aa⟩
 | some p =>
  obtain ⟨S,Z⟩:=p
  rw [hr] at hres
  obtain ⟨rfl,rfl,hsg,hsz⟩:=hres
  have F:=HK hr
  have hok:=F.seg
  have pA:=F.len
  obtain ⟨init,_,i2,i3⟩:=F.ex
  have tT:=Ey hok i2
  have hB:=LJ hok aa
  have hd:∀x∈S,x.2.length≤65536:=fun x hx=>by have:=hok x hx;omega
  refine H.wg ?_;clear H;intro w H
  refine (Ub H.data hsg aa).use ?_
  rintro v w ⟨V4,h,av,K,rfl,hv⟩
  (replace H:=H.aq K)
  refine wk ?_
  refine H.nA ?_;clear H;intro w b8 H
  refine H.wg ?_;clear H;intro w H
  refine (sP H.data hv hB).use ?_
  rintro q w ⟨rfl,K⟩
  (replace H:=H.aq K)
  by_cases cK:(bC (ju S)).1=0
  rotate_left
  ·have hone:fY f l=none:=by unfold fY;rw [hr];simp only;rw [if_neg cK]
   refine wk ?_
   exact ⟨sB,f+1,sB,⟨aa,fun g hg=>by
    by_cases e:g=f
    ·rw [e];exact hone
    ·exact hno g aa,V4,dm.trans av,H.sx⟩,aa⟩
  have hone:fY f l=some (ju S,fx f (fR S Z)):=by unfold fY;rw [hr];simp only;rw [if_pos cK]
  have e:aU (eZ l) l.length=⟨ju S,fx f (fR S Z),0,0⟩:=by unfold aU;rw [if_neg bR,QA hf hno hone]
  rw [e,sR cK]
  refine wk ?_
  refine dV 10 [2] [0,1,3,2,4,5,6] H ?_;clear H;intro w H
  refine wk ?_
  refine (U1 H.data hf (hsg.up av) (hsz.up av) aa aa (fun n hn=>(F.sz n hn).2) hd).use ?_
  rintro v w ⟨V5,r2,aF,K,rfl,hr2⟩
  (replace H:=H.aq K)
  refine H.wg ?_;clear H;intro _ w H
  exact ⟨V5,_,r2,(dm.trans av).trans aF,H.sx,rfl,hv.up aF,hr2⟩
end
theorem Vn {P:Program} {w:World} {s:Sl} {l:List UInt8} (h:ao w s l):(Extern.Bytes.bytesOf s.v).run P w=.ok ⟨l.toArray⟩ w:=by
 obtain ⟨a,n,c⟩:=s
 have hn:n=l.length:=h.len
 have hc:Cells w a (l.flatMap ay):=h.cells
 rw [fm] at hc
 cases a with
 | none =>
  have:l=[]:=by
   cases l with
   | nil=>rfl
   | cons x r =>
    have:=hc.1 ae
    cases this
  subst this
  rfl
 | some p =>
  have hl:=Lib.run_loadBytesX (P:=P) w (l.map fun b=>(b.toNat:Int)) p .empty (fun j x hj=>by
   rw [List.getElem?_map] at hj
   cases hb:l[j]? with
   | none=>rw [hb] at hj;cases hj
   | some b =>
    rw [hb] at hj
    cases hj
    have hp:(some p:Option Addr)=some ⟨aN (some p),aI (some p),none⟩:=hc.1 (by rintro e;rw [List.map_eq_nil_iff] at e;rw [e] at hb;cases hb)
    have pU:p=⟨aN (some p),aI (some p),none⟩:=Option.some.inj hp
    have e:p.add j=⟨aN (some p),aI (some p)+j,none⟩:=by
     conv=>lhs;rw [pU]
     exact addr_add _ _ j
    rw [e]
    exact hc.2 j _ (by rw [List.getElem?_map,hb];rfl))
  rw [List.length_map,←hn] at hl
  show (Extern.Bytes.loadBytes p n .empty).run P w=_
  rw [hl]
  congr 1
  apply ByteArray.ext
  show (#[]:Array UInt8)++(Lib.bytesOf (l.map fun b=>(b.toNat:Int))).toArray=l.toArray
  have:Lib.bytesOf (l.map fun b=>(b.toNat:Int))=l:=by
   unfold Lib.bytesOf
   rw [List.map_map]
   conv=>rhs;rw [←List.map_id l]
   exact List.map_congr_left fun x _=>by simp
  rw [this]
  simp
section
open Go Go.RowKit Go.Shelf
theorem Vq {P:Program} {w:World} {s:Sl} {l:List UInt8} (h:ao w s l) (c:Int):(Extern.BytealgIndexByte.indexByte #[s.v,.int .u8 c]).run P w=.ok (iv (Lib.indexByte l c.toNat.toUInt8)) w:=by
 have hs:=Lib.run_indexByteString (P:=P) ⟨l.toArray⟩ c w
 change Sem.run P (do
  let b ←Extern.Bytes.bytesOf s.v
  let c ←Extern.Bytes.asByte (.int .u8 c)
  match (List.range b.size).find? fun i=>b[i]! == c with
  | some i=>pure (goInt i)
  | none=>pure (goInt (-1))) w=_
 change Sem.run P (do
  let b ←Extern.Bytes.bytesOf (.string ⟨l.toArray⟩)
  let c ←Extern.Bytes.asByte (.int .u8 c)
  match (List.range b.size).find? fun i=>b[i]! == c with
  | some i=>pure (goInt i)
  | none=>pure (goInt (-1))) w=_ at hs
 simp only [Sem.run_bind,Vn h,Result.andThen] at hs ⊢
 simp only [Extern.Bytes.bytesOf,Sem.run_pure] at hs
 exact hs
theorem Lp (c:UInt8):((c.toNat:Nat):Int).toNat.toUInt8=c:=ae
section
variable {V W:World}
theorem RJ (hV:Sub V W) {s:Sl} {l:List UInt8} (hs:ao V s l) (c:UInt8):aj Tryz.prog 330 [s.v,bv c].toArray W fun v w'=>v=iv (Lib.indexByte l c)∧Rel W V [] V w' :=
 aj.CS Tryz.func330 ab ab ab (e:=Extern.BytealgIndexByte.indexByte) ab (Vq (hs.up hV) c.toNat) ⟨by rw [Lp],Rel.start hV⟩
theorem RI (hV:Sub V W) {s:Sl} {l:List UInt8} (hs:ao V s l) (c:UInt8):aj Tryz.prog 310 [s.v,bv c].toArray W fun v w'=>v=iv (Lib.indexByte l c)∧Rel W V [] V w':=by
 have H:=Rel.start hV
 refine eV Tryz.func310 8 [0,1,4] ?_
 refine wk ?_
 refine (RJ H.data hs c).use ?_
 rintro v w ⟨rfl,K⟩
 (replace H:=H.aq K)
 refine wk ?_
 exact H
theorem IA (hV:Sub V W) (l:List UInt8) (c:UInt8):aj Tryz.prog 331 [str l,bv c].toArray W fun v w'=>v=iv (Lib.indexByte l c)∧Rel W V [] V w' :=
 aj.CS Tryz.func331 ab ab ab (e:=Extern.BytealgIndexByte.indexByte) ab (Lib.run_indexByteString _ _ _) ⟨by rw [Lp],Rel.start hV⟩
end
def US:Shelf.Ren:=⟨fun x=>if x=32 then 314 else if x=49 then 340 else x,
 fun x=>if x=0 then 0 else if x=3 then 3 else if x=4 then 4 else if x=5 then 5 else if x=21 then 21 else if x=25 then 132 else if x=30 then 22 else if x=33 then 365 else if x=66 then 258 else if x=68 then 260 else if x=69 then 261 else x,
 fun x=>if x=2 then 0 else if x=3 then 1 else x⟩
theorem Sa:Lays7.n32 Tryz.prog US where
 mixed:=ab
 f32:=Tryz.func314.trans (congrArg some ab)
 f49:=Tryz.func340.trans (congrArg some ab)
 t0:=Tryz.underlying0
 a0:=Tryz.isAgg0
 z0:=Tryz.sizeOf0
 v0:=Tryz.zeroValue0
 i0:=ab
 t3:=Tryz.underlying3
 a3:=Tryz.isAgg3
 z3:=Tryz.sizeOf3
 v3:=Tryz.zeroValue3
 i3:=ab
 t4:=Tryz.underlying4
 a4:=Tryz.isAgg4
 z4:=Tryz.sizeOf4
 v4:=Tryz.zeroValue4
 i4:=ab
 t5:=Tryz.underlying5
 a5:=Tryz.isAgg5
 z5:=Tryz.sizeOf5
 v5:=Tryz.zeroValue5
 i5:=ab
 t21:=Tryz.underlying21
 a21:=Tryz.isAgg21
 z21:=Tryz.sizeOf21
 v21:=Tryz.zeroValue21
 i21:=ab
 t25:=Tryz.underlying132
 a25:=Tryz.isAgg132
 z25:=Tryz.sizeOf132
 v25:=Tryz.zeroValue132
 i25:=ab
 t30:=Tryz.underlying22
 a30:=Tryz.isAgg22
 z30:=Tryz.sizeOf22
 v30:=Tryz.zeroValue22
 i30:=ab
 t33:=Tryz.underlying365
 a33:=Tryz.isAgg365
 z33:=Tryz.sizeOf365
 v33:=Tryz.zeroValue365
 i33:=ab
 t66:=Tryz.underlying258
 a66:=Tryz.isAgg258
 z66:=Tryz.sizeOf258
 t68:=Tryz.underlying260
 a68:=Tryz.isAgg260
 z68:=Tryz.sizeOf260
 v68:=Tryz.zeroValue260
 i68:=ab
 t69:=Tryz.underlying261
 a69:=Tryz.isAgg261
 z69:=Tryz.sizeOf261
 v69:=Tryz.zeroValue261
 i69:=ab
 g2:=ab
 g3:=ab
abbrev kA (V:World):Prop:=Lib.Utf8Tabs 0 1 V
theorem sH {V V':World} (h:kA V) (k:Sub V V'):kA V' :=
 ⟨fun c hc=>k.cell (h.1 c hc),fun i hi=>⟨k.cell (h.2 i hi).1,k.cell (h.2 i hi).2⟩⟩
def re (l:List UInt8):Nat×Nat:=Lib.decodeN l.length (at8 l 0) (at8 l 1) (at8 l 2) (at8 l 3)
theorem Bi (l:List UInt8) (i:Nat):((⟨l.toArray⟩:ByteArray).get! i).toNat=at8 l i:=by
 show ((l.toArray)[i]!).toNat=_
 unfold at8
 by_cases h:i<l.length
 ·simp [h]
 ·simp [h]
  rfl
theorem Oo {l:List UInt8} (hne:l≠[]):Lib.decodeGo ⟨l.toArray⟩=re l:=by
 have hs:(⟨l.toArray⟩:ByteArray).size=l.length:=by simp [ByteArray.size]
 have hl:=List.length_pos_iff.2 hne
 unfold Lib.decodeGo re
 rw [if_neg aa,Lib.decode_at,hs]
 simp only [Bi,Nat.sub_zero,Nat.zero_add]
theorem Ov {V W:World} (hV:Sub V W) (hT:kA V) {s:Sl} {l:List UInt8} (hs:ao V s l) (hne:l≠[]):aj Tryz.prog 314 [s.v].toArray W fun v w'=>v=.tuple #[.int .i32 ((re l).1:Nat),iv ((re l).2:Nat)]∧Rel W V [] V w':=by
 have hlen:=hs.len
 obtain ⟨hpl,_⟩:=hs.aP (g:=bv) (i:=0) (fun _=>rfl) (List.length_pos_iff.2 hne)
 obtain ⟨a,n,c⟩:=s
 cases a with
 | none=>exact absurd hpl (by simp [Plain])
 | some p =>
  obtain ⟨b,o,z⟩:=p
  dsimp only at hlen hpl
  obtain rfl:z=none:=by
   simp only [Plain,Option.some.injEq,Addr.mk.injEq] at hpl
   exact hpl.2.2
  subst hlen
  have hsz:(⟨l.toArray⟩:ByteArray).size=l.length:=by simp [ByteArray.size]
  have hc:=Any7.utf8_DecodeRune Sa ⟨l.toArray⟩ b o c W (sH hT hV) (fun j hj=>by
   rw [hsz] at hj
   obtain ⟨_,h⟩:=hs.aP (g:=bv) (fun _=>rfl) hj
   rw [Bi,lx hj]
   exact hV.cell h)
  rw [hsz,Oo hne] at hc
  exact aj.mT Tryz.func314 ab ab (Calls.iw hc fun e w' ⟨he,hb⟩=>⟨_,he,rfl,Rel.ext (Rel.start hV) ⟨hb.os,hb.tape,hb.output,hb.size,hb.block⟩⟩)
def fM (s:UInt8) (l:List UInt8):Int:=if (dQ s l).2=[] then -1 else ((dQ s l).1.length:Nat)
theorem Cv {s:UInt8} {l:List UInt8} {i:Nat} (hi:i<l.length) (h:cO s (l.take i)=false) (ht:jH s l[i]=true):fM s l=(i:Nat):=by
 have e:=D6 (s:=s) (x:=l.take i) (t:=l[i]::l.drop (i+1)) h (.inr ⟨_,_,rfl,ht⟩)
 rw [←List.drop_eq_getElem_cons hi,List.take_append_drop] at e
 unfold fM
 rw [e]
 simp only
 rw [if_neg (List.ne_nil_of_length_pos (by rw [List.length_drop];omega)),List.length_take,Nat.min_eq_left (Nat.le_of_lt hi)]
theorem uN {s:UInt8} {l:List UInt8} (h:cO s l=false):fM s l = -1:=by
 have e:=D6 (s:=s) (x:=l) (t:=[]) h (.inl rfl)
 rw [List.append_nil] at e
 unfold fM
 rw [e]
 rfl
theorem Lf {s c:UInt8} (hs:s.toNat<128) (hc:128≤c.toNat):jH s c=false:=by
 have h1:c≠s:=fun h=>by subst h;omega
 have h2:c≠34:=fun h=>by subst h;exact absurd hc ag
 have h3:c≠13:=fun h=>by subst h;exact absurd hc ag
 have h4:c≠10:=fun h=>by subst h;exact absurd hc ag
 simp [jH,h1,h2,h3,h4]
theorem D0 {s:UInt8} {l:List UInt8} {i:Nat} (hi:i<l.length) (h:cO s (l.take i)=false) (ht:jH s l[i]=false):cO s (l.take (i+1))=false:=by
 rw [List.take_succ_eq_append_getElem hi]
 unfold cO at h ⊢
 rw [List.any_append,h]
 simpa using ht
theorem vE {s:UInt8} (hs:s.toNat<128) {l:List UInt8} {i:Nat}:∀ {k:Nat},i+k≤l.length→cO s (l.take i)=false→(∀j,i≤j→j<i+k→128≤at8 l j)→cO s (l.take (i+k))=false
 | 0,_,h,_=>h
 | k+1,hk,h,hj=>by
  have ih:=vE hs (k:=k) aa h fun j h1 h2=>hj j h1 aa
  have h8:=hj (i+k) aa aa
  rw [lx (i:=i+k) aa] at h8
  exact D0 (i:=i+k) aa ih (Lf hs h8)
theorem yb (x:UInt8):∀l:List UInt8,0≤Lib.indexByte l x↔x∈l
 | []=>by simp [Lib.indexByte]
 | b::l=>by
  have ih:=yb x l
  have kJ:=Lib.indexByte_ge l x
  unfold Lib.indexByte
  by_cases h:b=x
  ·subst h
   simp
  ·have h2:¬x=b:=fun e=>h e.symm
   rw [if_neg (by simpa using h)]
   by_cases h3:Lib.indexByte l x = -1
   ·rw [h3] at ih ⊢
    simp only [List.mem_cons,h2,false_or,←ih]
    simp
   ·rw [if_neg (by simpa using h3)]
    simp only [List.mem_cons,h2,false_or,←ih]
    omega
theorem Bg {c x:UInt8}:(0≤Lib.indexByte [34,13,10,c] x)↔jH c x=true:=by
 rw [yb]
 simp only [jH,List.mem_cons,List.not_mem_nil,or_false,Bool.or_eq_true,decide_eq_true_eq]
 constructor
 ·rintro (h|h|h|h)<;>simp [h]
 ·rintro (((h|h)|h)|h)<;>simp [h]
structure zN (n b1 b2 b3:Nat) (p:Nat×Nat):Prop where
 hi:128≤p.1
 lt:p.1<1114112
 w1:1≤p.2
 wn:p.2≤n
 w4:p.2≤4
 t1:1<p.2→128≤b1
 t2:2<p.2→128≤b2
 t3:3<p.2→128≤b3
 w2:p.1≠65533→2≤p.2
 enc:p.1≠65533→(Utf8.encode (p.1:Nat)).size=p.2
theorem AX {c:Nat} (hv:c<55296∨(57344≤c∧c≤1114111)):(Utf8.encode (c:Nat)).size=if c<128 then 1 else if c<2048 then 2 else if c<65536 then 3 else 4:=by
 have h1:Utf8.valid (c:Int)=true:=by
  simp only [Utf8.valid,Bool.or_eq_true,Bool.and_eq_true,decide_eq_true_eq]
  omega
 simp only [Utf8.encode,h1,if_true,Int.toNat_natCast]
 repeat' split
 all_goals rfl
theorem OO {c:Nat} (h:128≤c):∃e t,Utf8.encode (c:Nat)=⟨(e::t).toArray⟩∧128≤e.toNat:=by
 obtain ⟨d,hd,Qq⟩:∃d,d=(if Utf8.valid (c:Int) then (c:Int).toNat else Utf8.runeError)∧(128≤d∧d<1114112):=by
  refine ⟨_,rfl,?_⟩
  split
  ·rename_i hv
   simp only [Utf8.valid,Bool.or_eq_true,Bool.and_eq_true,decide_eq_true_eq] at hv
   omega
  ·decide
 have hne:¬d<128:=aa
 simp only [Utf8.encode,←hd,hne,if_false]
 have u8:∀n,128≤n→n<256→128≤(UInt8.ofNat n).toNat:=fun n h1 h2=>by rw [UInt8.toNat_ofNat'];omega
 split
 ·exact ⟨_,_,rfl,u8 _ aa aa⟩
 ·split
  ·exact ⟨_,_,rfl,u8 _ aa aa⟩
  ·exact ⟨_,_,rfl,u8 _ aa aa⟩
theorem Oq {n b0 b1 b2 b3:Nat} (hn:1≤n) (h0:128≤b0) (k0:b0<256) (k1:b1<256) (k2:b2<256) (k3:b3<256):zN n b1 b2 b3 (Lib.decodeN n b0 b1 b2 b3):=by
 have err:zN n b1 b2 b3 (65533,1):=⟨ag,ag,ag,hn,ag,ae,ae,ae,ae,ae⟩
 unfold Lib.decodeN
 rw [if_neg aa]
 split
 ·rename_i g1
  split
  ·refine ⟨by dsimp only;omega,by dsimp only;omega,by dsimp only;omega,by dsimp only;omega,by dsimp only;omega,fun _=>by omega,fun h=>by simp at h,fun h=>by simp at h,fun _=>by dsimp only;omega,fun _=>?_⟩
   rw [AX (by dsimp only;omega)]
   dsimp only
   rw [if_neg aa,if_pos aa]
  ·exact err
 ·split
  ·rename_i g1
   split
   ·rename_i g2
    refine ⟨by dsimp only;omega,by dsimp only;omega,by dsimp only;omega,by dsimp only;omega,by dsimp only;omega,fun _=>by omega,fun _=>by omega,fun h=>by simp at h,fun _=>by dsimp only;omega,fun _=>?_⟩
    rw [AX (by dsimp only;omega)]
    dsimp only
    rw [if_neg aa,if_neg aa,if_pos aa]
   ·exact err
  ·split
   ·rename_i g1
    split
    ·rename_i g2
     refine ⟨by dsimp only;omega,by dsimp only;omega,by dsimp only;omega,by dsimp only;omega,by dsimp only;omega,fun _=>by omega,fun _=>by omega,fun _=>by omega,fun _=>by dsimp only;omega,fun _=>?_⟩
     rw [AX (by dsimp only;omega)]
     dsimp only
     rw [if_neg aa,if_neg aa,if_neg aa]
    ·exact err
   ·exact err
theorem EU (l:List UInt8) (i j:Nat):at8 (l.drop i) j=at8 l (i+j):=by unfold at8;rw [List.getElem?_drop]
theorem wu (l:List UInt8) (i:Nat):at8 l i<256:=UInt8.toNat_lt _
theorem Iy {e:UInt8} {t:List UInt8} (he:128≤e.toNat):∀ {cs:List UInt8},(∀b∈cs,b.toNat<128)→Lib.index cs (e::t) = -1
 | [],_=>rfl
 | b::cs,h=>by
  have hb:=h b ae
  have hne:(e == b)=false:=by
   rw [beq_eq_false_iff_ne]
   intro h
   subst h
   omega
  unfold Lib.index
  rw [Iy he fun x hx=>h x (by simp [hx])]
  simp [List.isPrefixOf,hne]
theorem AR {c:UInt8} (hc:c.toNat<128) {k:Nat} (hk:k<4):∃d,d<128∧Utf8.decode ⟨([34,13,10,c]:List UInt8).toArray⟩ k=(d,1):=by
 refine ⟨at8 [34,13,10,c] k,?_,?_⟩
 ·match k,hk with
  | 0,_=>exact (by decide:(34:UInt8).toNat<128)
  | 1,_=>exact (by decide:(13:UInt8).toNat<128)
  | 2,_=>exact (by decide:(10:UInt8).toNat<128)
  | 3,_=>exact hc
 ·rw [Lib.decode_at,Bi]
  unfold Lib.decodeN
  rw [if_pos]
  match k,hk with
  | 0,_=>exact (by decide:(34:UInt8).toNat<128)
  | 1,_=>exact (by decide:(13:UInt8).toNat<128)
  | 2,_=>exact (by decide:(10:UInt8).toNat<128)
  | 3,_=>exact hc
theorem Fl {P:Program} {w:World} {s d:TypeId} (hs:(P.underlying s).isSome=true) (hd:P.underlying d=some .string) {k:IntKind} {n:Int} {l:List UInt8} (hn:Utf8.encode n=⟨l.toArray⟩) {G:Value→World→Prop} (hk:G (str l) w):aH P (convert s d (.int k n)) w G :=
 Rel.AA hs hd (by rw [hn];exact hk)
def jO (V:World):Prop:=∃m:Int,V.cell? ⟨2,0,none⟩=some (.int .i64 m)
theorem jO.up {V V':World} (h:jO V) (k:Sub V V'):jO V':=by
 obtain ⟨m,hm⟩:=h
 exact ⟨m,k.cell hm⟩
theorem LY {n:Nat} (h:n<2147483648):wr .i32 (n:Int)=(n:Int):=by
 unfold wr
 simp only [IntKind.wrap,IntKind.bits,IntKind.signed]
 simp
 omega
structure Mf (r:Nat) (e:UInt8) (t:List UInt8):Prop where
 out:Utf8.encode (r:Nat)=⟨(e::t).toArray⟩
section
variable {V W:World}
theorem RO (hV:Sub V W) {m:Int} (hm:V.cell? ⟨2,0,none⟩=some (.int .i64 m)) {cs:List UInt8} (hcs:∀b∈cs,b.toNat<128) (hl:cs.length<1000) {e:UInt8} {t:List UInt8} (he:128≤e.toNat) (h2:1≤t.length) (hb:(t.length:Int)+1≤m) :
  aj Tryz.prog 334 [str cs,str (e::t)].toArray W fun v w'=>v=iv (-1)∧Rel W V [] V w':=by
 have hz:∀l:List UInt8,(⟨l.toArray⟩:ByteArray).size=l.length:=fun l=>by simp [ByteArray.size]
 refine aj.CS Tryz.func334 ab ab ab (e:=Extern.BytealgIndex.index) ab (Lib.run_indexString ⟨cs.toArray⟩ ⟨(e::t).toArray⟩ W 2 m ab (hV.cell hm) (by rw [hz,List.length_cons];omega) (by rw [hz,List.length_cons];omega) (by rw [hz];omega)) ⟨?_,Rel.start hV⟩
 simp only [Iy he hcs]
theorem MV (hV:Sub V W) (n:Int):aj Tryz.prog 333 [iv n].toArray W fun v w'=>v=.bool (decide (8<n))∧Rel W V [] V w':=by
 have H:=Rel.start hV
 refine eV Tryz.func333 5 [0,2] ?_
 refine wk ?_
 exact H
def qt (cs:List UInt8):List Value:=(List.range 256).map fun j=>Value.bool (cs.contains (UInt8.ofNat j))
theorem VJ (cs:List UInt8) (x:UInt8):(qt cs)[x.toNat]?=some (.bool (cs.contains x)):=by
 unfold qt
 rw [List.getElem?_map,List.getElem?_range x.toNat_lt]
 simp
def UU:Shelf.Ren:=⟨fun _=>295,fun x=>if x=0 then 0 else if x=3 then 3 else if x=4 then 4 else if x=5 then 5 else if x=9 then 9 else if x=27 then 349 else x,fun x=>x⟩
theorem Sb:SlLaysV.n11 Tryz.prog UU where
 mixed:=ab
 f11:=Tryz.func295.trans (congrArg some ab)
 t0:=Tryz.underlying0
 a0:=Tryz.isAgg0
 z0:=Tryz.sizeOf0
 v0:=Tryz.zeroValue0
 t3:=Tryz.underlying3
 a3:=Tryz.isAgg3
 z3:=Tryz.sizeOf3
 v3:=Tryz.zeroValue3
 t4:=Tryz.underlying4
 a4:=Tryz.isAgg4
 z4:=Tryz.sizeOf4
 v4:=Tryz.zeroValue4
 t5:=Tryz.underlying5
 a5:=Tryz.isAgg5
 z5:=Tryz.sizeOf5
 v5:=Tryz.zeroValue5
 t9:=Tryz.underlying9
 a9:=Tryz.isAgg9
 z9:=Tryz.sizeOf9
 v9:=Tryz.zeroValue9
 t27:=Tryz.underlying349
 a27:=Tryz.isAgg349
 z27:=Tryz.sizeOf349
theorem MU (hV:Sub V W) {cs:List UInt8} (hcs:∀b∈cs,b.toNat<128) (hl:cs.length<1000):aj Tryz.prog 295 [str cs].toArray W fun v w'=>v=.tuple #[.agg (qt cs).toArray,.bool true]∧Rel W V [] V w':=by
 have h:=Any.bytes_makeASCIISet Sb (fun w=>by kernel_rfl) ab ⟨cs.toArray⟩ W (by show cs.toArray.size<_;simp;omega) (fun j b hb=>hcs b (List.mem_of_getElem? (by simpa using hb)))
 have e:Lib.setCells (⟨cs.toArray⟩:ByteArray).data.toList=(qt cs).toArray:=by
  rw [Lib.setCells_eq]
  unfold qt
  apply Array.ext'
  simp
 rw [e] at h
 exact aj.mT Tryz.func295 ab ab (Calls.iw h fun e w' ⟨he,hw⟩=>⟨_,he,rfl,by rw [hw];exact ((Rel.start hV).newObj _).pd⟩)
theorem Pq {c x:UInt8}:([34,13,10,c]:List UInt8).contains x=jH c x:=by
 rw [Bool.eq_iff_iff,List.contains_iff_mem,←Bg,yb]
theorem MT (hV:Sub V W) {b:Nat} {cs:List UInt8} (hb:bD V b (qt cs) 349) (x:UInt8):aj Tryz.prog 319 [.pointer (some ⟨b,0,none⟩),bv x].toArray W fun v w'=>v=.bool (cs.contains x)∧Rel W V [] V w':=by
 have H:=Rel.start hV
 have h1:=hb.bt (VJ cs x)
 have uJ:=x.toNat_lt
 refine eV Tryz.func319 10 [0,1,4] ?_
 refine wk ?_
 rw [show x.toNat=placeOf 0 ((x.toNat:Nat):Int).toNat 1 by simp [placeOf]] at h1
 refine ⟨_,H.q9 h1,?_⟩
 refine wk ?_
 exact H
theorem Cs (hV:Sub V W) (hT:kA V) (hM:jO V) {s:Sl} {l:List UInt8} (hs:ao V s l) (hl:l.length≤100000000) {c:UInt8} (hc:c.toNat<128):aj Tryz.prog 311 [s.v,str [34,13,10,c]].toArray W fun v w'=>v=iv (fM c l)∧Rel W V [] V w':=by
 have H:=Rel.start hV
 have hlen:=hs.len
 have Zo:(ByteArray.mk ([34,13,10,c]:List UInt8).toArray).size=4:=rfl
 have hc4:∀b∈[34,13,10,c],b.toNat<128:=by simp [hc]
 obtain ⟨m,hm⟩:=hM
 refine eV Tryz.func311 129 [0,1,4,5,6,7,8,9,10,11,12,13,15,17,20,26,28,29,30,33,39,42,47,53,59,60,61,62,63,68,74,84,91,101,105,109,113,118,121,122,123,127] ?_
 by_cases h1:l.length=1
 ·obtain ⟨x,rfl⟩:∃x,l=[x]:=by
   match l,h1 with
   | [x],_=>exact ⟨x,rfl⟩
  obtain ⟨p0,c0⟩:=hs.aP (g:=bv) (i:=0) (fun _=>rfl) ae
  change V.cell? _=some (bv x) at c0
  have uJ:=x.toNat_lt
  have uH:wr .i32 (x.toNat:Int)=(x.toNat:Int):=LY aa
  by_cases hx:128≤x.toNat
  ·have e:fM c [x] = -1:=uN (by simp [cO,Lf hc hx])
   rw [e]
   refine wk ?_
   rw [uH]
   refine wk ?_
   refine Rel.range ad rfl rfl H ?_
   clear H
   intro w b H
   refine wk ?_
   refine aK ad [0,1,6,7,8,9,10,11,12,13,15,17,20,26,28,39,42,47,53,59,60,61,62,63,68,74,84,91,101,105,109,113,118,121,122,123,127] (fun _:Nat=>[]) (fun k w'=>k≤4∧Rel W V [.obj b (.stringIter ⟨([34,13,10,c]:List UInt8).toArray⟩ k)] V w') (fun k _=>4 - k) 0 ?_
   conv=>whnf
   refine ⟨trivial,⟨aa,H⟩,?_⟩
   clear H
   rintro kk w ⟨kN,H⟩
   conv=>whnf
   refine Rel.next H (fun hlt w H=>?_) (fun hlt=>?_)
   ·have j6:kk<4:=hlt
    obtain ⟨d,hd,uf⟩:=AR hc j6
    rw [uf] at H ⊢
    refine wk ?_
    exact ⟨sB,kk+1,trivial,⟨aa,H⟩,aa⟩
   ·refine wk ?_
    exact H.sx
  ·refine wk ?_
   rw [uH]
   refine wk ?_
   refine (IA H.data _ x).use ?_
   rintro v w ⟨rfl,K⟩
   (replace H:=H.aq K)
   have hin:=@Bg c x
   have kJ:=Lib.indexByte_ge [34,13,10,c] x
   generalize Lib.indexByte [34,13,10,c] x=z at hin kJ
   cases ht:jH c x with
   | true =>
    have e:fM c [x]=0:=Cv (i:=0) ae rfl ht
    rw [e]
    have mQ:=hin.2 ht
    refine wk ?_
    exact H.sx
   | false =>
    have e:fM c [x] = -1:=uN (by simp [cO,ht])
    rw [e]
    have mQ:z<0:=by
     rcases Int.lt_or_le z 0 with h|h
     ·exact h
     ·rw [hin.1 h] at ht
      cases ht
    refine wk ?_
    exact H.sx
 refine wk ?_
 refine (MV H.data s.len).use ?_
 rintro v w ⟨rfl,K⟩
 (replace H:=H.aq K)
 by_cases h8:8<l.length
 ·rw [decide_eq_true (show (8:Int)<s.len by omega)]
  refine wk ?_
  refine (MU H.data hc4 ae).use ?_
  rintro v w ⟨rfl,K⟩
  (replace H:=H.aq K)
  refine wk ?_
  refine H.nA ?_;clear H;intro w b7 H
  refine H.wh ?_;clear H;intro w H
  replace H:=H.cj (c':=qt [34,13,10,c]) bo
  obtain ⟨V2,hV2,H,gv⟩:=H.bJ
  refine wk ?_
  have Il:=hs.up hV2
  refine aK (S:=Nat) ad [0,1,5,6,7,8,11,12,13,15,17,20,26,28,29,30,33,39,42,47,53,59,60,61,74,84,91,101,105,109,113,118,121,122,123,127] (fun i=>[(62,iv i)]) (fun i w'=>i≤l.length∧cO c (l.take i)=false∧Rel W V [] V2 w') (fun i _=>l.length - i) 0 ?_
  conv=>whnf
  refine ⟨sB,⟨aa,rfl,H⟩,?_⟩
  clear H
  rintro i w ⟨hi,hno,H⟩
  by_cases hlt:i<l.length
  rotate_left
  ·rw [List.take_of_length_le aa] at hno
   rw [uN hno]
   refine wk ?_
   exact H.less (Sub.refl _) hV2
  obtain ⟨p0,c0⟩:=Il.aP (g:=bv) (fun _=>rfl) hlt
  obtain ⟨x,hx⟩:∃x,x=l[i]:=⟨_,rfl⟩
  rw [←hx] at c0
  have uJ:=x.toNat_lt
  refine wk ?_
  refine (MT H.data gv x).use ?_
  rintro v w ⟨rfl,K⟩
  (replace H:=H.aq K)
  rw [Pq]
  cases ht:jH c x with
  | true =>
   have e:fM c l=(i:Nat):=Cv hlt hno (by rw [←hx];exact ht)
   rw [e]
   refine wk ?_
   exact H.sx.less (Sub.refl _) hV2
  | false =>
   refine wk ?_
   exact ⟨sB,i+1,sB,⟨aa,D0 hlt hno (by rw [←hx];exact ht),H.sx⟩,aa⟩
 ·rw [decide_eq_false aa]
  refine wk ?_
  refine aK (S:=Nat) ad [0,1,5,6,7,8,9,10,17,20,26,28,29,30,33,39,42,47,53,59,60,61,62,63,68] (fun i=>[(12,iv i)]) (fun i w'=>i≤l.length∧cO c (l.take i)=false∧Rel W V [] V w') (fun i _=>l.length - i) 0 ?_
  conv=>whnf
  refine ⟨sB,⟨aa,rfl,H⟩,?_⟩
  clear H
  rintro i w ⟨hi,hno,H⟩
  by_cases hlt:i<l.length
  rotate_left
  ·rw [List.take_of_length_le aa] at hno
   rw [uN hno]
   refine wk ?_
   exact H.sx
  obtain ⟨p0,c0⟩:=hs.aP (g:=bv) (fun _=>rfl) hlt
  obtain ⟨x,hx⟩:∃x,x=l[i]:=⟨_,rfl⟩
  rw [←hx] at c0
  have uJ:=x.toNat_lt
  have uH:wr .i32 (x.toNat:Int)=(x.toNat:Int):=LY aa
  by_cases Zl:x.toNat<128
  ·refine wk ?_
   rw [uH]
   refine wk ?_
   refine (IA H.data _ x).use ?_
   rintro v w ⟨rfl,K⟩
   (replace H:=H.aq K)
   have hin:=@Bg c x
   have kJ:=Lib.indexByte_ge [34,13,10,c] x
   generalize Lib.indexByte [34,13,10,c] x=z at hin kJ
   cases ht:jH c x with
   | true =>
    have e:fM c l=(i:Nat):=Cv hlt hno (by rw [←hx];exact ht)
    rw [e]
    have mQ:=hin.2 ht
    refine wk ?_
    exact H.sx
   | false =>
    have mQ:z<0:=by
     rcases Int.lt_or_le z 0 with h|h
     ·exact h
     ·rw [hin.1 h] at ht
      cases ht
    refine wk ?_
    exact ⟨sB,i+1,sB,⟨aa,D0 hlt hno (by rw [←hx];exact ht),H.sx⟩,aa⟩
  ·have dJ:=hs.sub (n:=1) (fun _=>rfl) (a:=i) (b:=l.length) hi (Nat.le_refl _)
   rw [List.take_length] at dJ
   have nS:=hs.cap
   have hF:=Oq (n:=(l.drop i).length) (b0:=at8 (l.drop i) 0) (b1:=at8 (l.drop i) 1) (b2:=at8 (l.drop i) 2) (b3:=at8 (l.drop i) 3) (by rw [List.length_drop];omega) (by rw [EU,Nat.add_zero,lx hlt,←hx];omega) (wu _ _) (wu _ _) (wu _ _) (wu _ _)
   change zN _ _ _ _ (re (l.drop i)) at hF
   refine wk ?_
   rw [uH]
   refine wk ?_
   refine (Ov H.data hT (hlen ▸ dJ) (List.ne_nil_of_length_pos (by rw [List.length_drop];omega))).use ?_
   rintro v w ⟨rfl,K⟩
   (replace H:=H.aq K)
   obtain ⟨r,k,Rg⟩:∃r k,re (l.drop i)=(r,k):=⟨_,_,rfl⟩
   rw [Rg] at hF ⊢
   obtain ⟨f1,f2,f3,f4,f5,f6,f7,f8,f10,f9⟩:=hF
   dsimp only at f1 f2 f3 f4 f5 f6 f7 f8 f9 f10 ⊢
   rw [List.length_drop] at f4
   rw [EU] at f6 f7 f8
   have bR:∀j,i≤j→j<i+k→128≤at8 l j:=fun j h1 h2=>by
    have:j=i∨j=i+1∨j=i+2∨j=i+3:=aa
    rcases this with rfl|rfl|rfl|rfl
    ·rw [lx hlt,←hx];omega
    ·exact f6 aa
    ·exact f7 aa
    ·exact f8 aa
   obtain ⟨zr,Cr⟩:∃zr:Int,zr=(r:Nat):=⟨_,rfl⟩
   rw [←Cr]
   clear f2
   by_cases ux:zr=65533
   ·refine wk ?_
    refine Rel.range ad rfl rfl H ?_
    clear H
    intro w b H
    refine wk ?_
    refine aK ad [0,1,5,6,7,8,9,10,11,12,13,17,20,26,28,29,30,33,39,42,47,53,59,60,61,62,63,68,74,84,91,101,105,109,113,118,121] (fun _:Nat=>[]) (fun k w'=>k≤4∧Rel W V [.obj b (.stringIter ⟨([34,13,10,c]:List UInt8).toArray⟩ k)] V w') (fun k _=>4 - k) 0 ?_
    conv=>whnf
    refine ⟨trivial,⟨aa,H⟩,?_⟩
    clear H
    rintro kk w ⟨kN,H⟩
    conv=>whnf
    refine Rel.next H (fun hlt w H=>?_) (fun hlt=>?_)
    ·have j6:kk<4:=hlt
     obtain ⟨d,hd,uf⟩:=AR hc j6
     rw [uf] at H ⊢
     refine wk ?_
     exact ⟨sB,kk+1,trivial,⟨aa,H⟩,aa⟩
    ·refine wk ?_
     refine ⟨sB,i+k,sB,⟨aa,vE hc aa hno bR,H.sx⟩,aa⟩
   obtain ⟨e,t,hen,xE⟩:=OO f1
   have hsz:=f9 aa
   have eN:=f10 aa
   rw [hen] at hsz
   replace hen:Mf r e t:=⟨hen⟩
   replace hsz:t.length+1=k:=by simpa [ByteArray.size] using hsz
   by_cases j6:k=4
   ·conv=>whnf
    refine cT ?_
    conv=>whnf
    refine cT ?_
    refine wk ?_
    refine Fl rfl rfl (l:=e::t) (by rw [Cr];exact hen.out) ?_
    conv=>whnf
    have hne:¬([34,13,10,c]:List UInt8)=e::t:=fun h=>by
     cases h
     exact absurd xE ag
    rw [decide_eq_false hne]
    refine wk ?_
    refine ⟨sB,i+k,sB,⟨aa,vE hc aa hno bR,H.sx⟩,aa⟩
   ·by_cases cr:(k:Int)≤m
    ·conv=>whnf
     refine cT ?_
     conv=>whnf
     refine cF ?_
     conv=>whnf
     refine H.db ?_
     conv=>whnf
     refine cT ?_
     refine wk ?_
     refine Fl rfl rfl (l:=e::t) (by rw [Cr];exact hen.out) ?_
     refine wk ?_
     refine (RO H.data hm hc4 ae xE aa aa).use ?_
     rintro v w ⟨rfl,K⟩
     (replace H:=H.aq K)
     refine wk ?_
     refine ⟨sB,i+k,sB,⟨aa,vE hc aa hno bR,H.sx⟩,aa⟩
    ·refine wk ?_
     refine Rel.range ad rfl rfl H ?_
     clear H
     intro w b H
     refine wk ?_
     refine aK ad [0,1,5,6,7,8,9,10,11,12,13,17,20,26,28,29,30,33,39,42,47,53,59,60,61,62,63,68,74,84,91,101,105,109,113,118,121] (fun _:Nat=>[]) (fun k w'=>k≤4∧Rel W V [.obj b (.stringIter ⟨([34,13,10,c]:List UInt8).toArray⟩ k)] V w') (fun k _=>4 - k) 0 ?_
     conv=>whnf
     refine ⟨trivial,⟨aa,H⟩,?_⟩
     clear H
     rintro kk w ⟨kN,H⟩
     conv=>whnf
     refine Rel.next H (fun hlt w H=>?_) (fun hlt=>?_)
     ·have j6:kk<4:=hlt
      obtain ⟨d,hd,uf⟩:=AR hc j6
      rw [uf] at H ⊢
      refine wk ?_
      exact ⟨sB,kk+1,trivial,⟨aa,H⟩,aa⟩
     ·refine wk ?_
      refine ⟨sB,i+k,sB,⟨aa,vE hc aa hno bR,H.sx⟩,aa⟩
end
end
section
variable {V W:World}
theorem RZ (s:UInt8) (l:List UInt8):(0≤fM s l)↔cO s l=true:=by
 cases h:cO s l with
 | false=>rw [uN h];simp
 | true =>
  obtain ⟨h1,h2⟩:=vI s l
  have h3:(dQ s l).2≠[]:=fun e=>by
   rw [e,List.append_nil] at h1
   rw [←h1,h] at h2
   cases h2
  unfold fM
  rw [if_neg h3]
  simp only [iff_true]
  omega
theorem NT (hV:Sub V W) (hT:kA V) (hM:jO V) {s:Sl} {l:List UInt8} (hs:ao V s l) (hl:l.length≤100000000) {c:UInt8} (hc:c.toNat<128):aj Tryz.prog 282 [s.v,str [34,13,10,c]].toArray W fun v w'=>v=.bool (cO c l)∧Rel W V [] V w':=by
 have H:=Rel.start hV
 refine eV Tryz.func282 9 [0,1,4] ?_
 refine wk ?_
 refine (Cs H.data hT hM hs hl hc).use ?_
 rintro v w ⟨rfl,K⟩
 (replace H:=H.aq K)
 have hin:=RZ c l
 generalize fM c l=z at hin
 have e:decide (z≥0)=cO c l:=by
  rw [Bool.eq_iff_iff,decide_eq_true_eq,←hin]
 refine wk ?_
 first|rw [e]|rw [show decide (0≤z)=cO c l from e]
 exact ⟨rfl,H.sx⟩
theorem Gz:∀ {l:List UInt8},l.count 34=0→fH l=l
 | [],_=>rfl
 | c::l,h=>by
  rw [List.count_cons] at h
  unfold fH
  by_cases hc:c=34
  ·rw [hc] at h
   simp at h
  ·rw [if_neg hc,Gz aa]
theorem Gy:∀(l:List UInt8),(fH l).length=l.length+l.count 34
 | []=>rfl
 | c::l=>by
  have ih:=Gy l
  unfold fH
  rw [List.count_cons]
  by_cases hc:c=34
  ·rw [if_pos hc,hc]
   simp [ih]
   omega
  ·rw [if_neg hc,if_neg (by simpa using hc)]
   simp [ih]
   omega
theorem Iz (c:UInt8):∀ {l:List UInt8},0<l.count c→∃a r,l=a++c::r∧a.count c=0∧Lib.indexByte l c=(a.length:Nat)
 | [],h=>by simp at h
 | b::l,h=>by
  by_cases hb:b=c
  ·subst hb
   exact ⟨[],l,rfl,rfl,by simp [Lib.indexByte]⟩
  ·rw [List.count_cons,if_neg (by simpa using hb)] at h
   obtain ⟨a,r,h1,h2,h3⟩:=Iz c (l:=l) aa
   refine ⟨b::a,r,by rw [h1];rfl,?_,?_⟩
   ·rw [List.count_cons,h2,if_neg (by simpa using hb)]
   ·unfold Lib.indexByte
    rw [if_neg (by simpa using hb),h3,if_neg (by simp;try omega)]
    rfl
end
abbrev rS (n:Nat) (k:Bool):List Value:=[iv (n:Nat),.bool k]
def lA (s:UInt8) (l:List UInt8):Option (aO×List UInt8):=if l.head?=some 34 then (match cE l.tail with
  | none=>none
  | some p=>some ((p.1,true),p.2)) else some (((dQ s l).1,false),(dQ s l).2)
theorem J0 (s:UInt8) (l:List UInt8):jC s l=match lA s l with
  | none=>none
  | some (c,t)=>if t.head?=some 34 then none else some (c,t):=by
 unfold jC lA
 split
 ·cases h:cE l.tail with
  | none=>rfl
  | some p =>
   simp only
   rw [if_neg (vj (x:=p.1) (t:=p.2) h).2]
 ·rfl
def ou (x:List UInt8) (o:Option (List UInt8×List UInt8)):Option (List UInt8×List UInt8):=o.map fun p=>(x++p.1,p.2)
theorem Uj (o:Option (List UInt8×List UInt8)):ou [] o=o:=by cases o<;>rfl
theorem Db (x y:List UInt8) (o:Option (List UInt8×List UInt8)):ou x (ou y o)=ou (x++y) o:=by cases o<;>simp [ou]
theorem Dt {c d:UInt8} {t:List UInt8} (h:c≠34):cE (c::d::t)=ou [c] (cE (d::t)):=by
 rw [cE,if_neg h]
 cases cE (d::t)<;>rfl
theorem J3:∀ {t:List UInt8},t.count 34=0→cE t=none
 | [],_=>rfl
 | [c],h=>by
  unfold cE
  rw [if_neg]
  rintro rfl
  simp at h
 | c::d::t,h=>by
  rw [List.count_cons] at h
  have hc:c≠34:=by rintro rfl;simp at h
  rw [Dt hc,J3 aa]
  rfl
theorem Uw {a r:List UInt8} (h:a.count 34=0) (hr:r.head?≠some 34):cE (a++34::r)=some (a,r):=by
 have:=J4 a hr
 rwa [Gz h] at this
theorem Du:∀ {a r:List UInt8},a.count 34=0→cE (a++34::34::r)=ou (a++[34]) (cE r)
 | [],r,_=>by
  show cE (34::34::r)=_
  rw [cE,if_pos rfl,if_pos rfl]
  cases cE r<;>rfl
 | [c],r,h=>by
  have hc:c≠34:=by rintro rfl;simp at h
  show cE (c::34::34::r)=_
  rw [Dt hc]
  have:=Du (a:=[]) (r:=r) rfl
  rw [List.nil_append] at this
  rw [this,Db]
  rfl
 | c::d::a,r,h=>by
  rw [List.count_cons] at h
  have hc:c≠34:=by rintro rfl;simp at h
  show cE (c::d::(a++34::34::r))=_
  rw [Dt hc]
  have:=Du (a:=d::a) (r:=r) aa
  rw [List.cons_append] at this
  rw [this,Db]
  rfl
theorem WL (s:UInt8) (l:List UInt8):(fM s l = -1∧(dQ s l)=(l,[]))∨∃i:Nat,i<l.length∧fM s l=i∧dQ s l=(l.take i,l.drop i):=by
 have h1:=(vI s l).1
 unfold fM
 generalize dQ s l=p at h1 ⊢
 obtain ⟨u,v⟩:=p
 dsimp only at h1 ⊢
 by_cases hv:v=[]
 ·rw [if_pos hv]
  rw [hv,List.append_nil] at h1
  exact .inl ⟨rfl,by rw [hv,h1]⟩
 ·rw [if_neg hv]
  have hp:=List.length_pos_iff.2 hv
  subst h1
  exact .inr ⟨u.length,by rw [List.length_append];omega,rfl,ae⟩
theorem sD (n:Nat):(aE n).toNat<128∧aE n≠34∧aE n≠13∧aE n≠10:=by
 unfold aE
 split
 ·decide
 ·split<;>decide
theorem DQ {n:Nat} (hn:n<3):([34,13,10]:List UInt8).length=3∧([44,59,9]:List UInt8).length=3∧(List.drop ((n:Nat):Int).toNat (List.take (((n:Nat):Int)+1).toNat ([44,59,9]:List UInt8))).length=1∧([34,13,10]:List UInt8)++List.drop ((n:Nat):Int).toNat (List.take (((n:Nat):Int)+1).toNat ([44,59,9]:List UInt8))=[34,13,10,aE n]:=by
 match n,hn with
 | 0,_=>exact ⟨rfl,rfl,rfl,rfl⟩
 | 1,_=>exact ⟨rfl,rfl,rfl,rfl⟩
 | 2,_=>exact ⟨rfl,rfl,rfl,rfl⟩
section
variable {V W:World}
theorem A3 (hV:Sub V W) (c i:Int):aj Tryz.prog 150 [iv c,iv i].toArray W fun v w'=>v=gq c i∧Rel W V [] V w':=by
 have H:=Rel.start hV
 refine eV Tryz.func150 8 [0,1,4] ?_
 refine H.wg ?_;clear H;intro _ _ w H
 first|exact H.sx|exact ⟨rfl,H.sx⟩
theorem AY (hV:Sub V W) (n:Nat) (k:Bool):aj Tryz.prog 241 [.agg (rS n k).toArray].toArray W fun v w'=>∃(V':World) (r:Sl),Sub V V'∧Rel W V [] V' w'∧v=r.v∧ao V' r (aZ k):=by
 have H:=Rel.start hV
 refine eV Tryz.func241 9 [0,1,2,4] ?_
 cases k with
 | true =>
  refine wk ?_
  refine H.nA ?_;clear H;intro w b1 H
  refine wk ?_
  refine H.nA ?_;clear H;intro w b2 H
  replace H:=H.cj (c':=([13,10]:List UInt8).flatMap ay) rfl
  refine wk ?_
  refine Rel.tv (b:=b2) (l:=[13,10]) Tryz.underlying22 Tryz.underlying5 H rfl ?_
  clear H
  intro V2 w hV2 hx H
  refine wk ?_
  exact ⟨V2,_,hV2,H.sx,rfl,hx⟩
 | false =>
  refine wk ?_
  refine H.nA ?_;clear H;intro w b1 H
  refine wk ?_
  refine H.nA ?_;clear H;intro w b2 H
  replace H:=H.cj (c':=([10]:List UInt8).flatMap ay) rfl
  refine wk ?_
  refine Rel.tv (b:=b2) (l:=[10]) Tryz.underlying22 Tryz.underlying5 H rfl ?_
  clear H
  intro V2 w hV2 hx H
  refine wk ?_
  exact ⟨V2,_,hV2,H.sx,rfl,hx⟩
theorem Th (hV:Sub V W) (hT:kA V) (hM:jO V) {n:Nat} (hn:n<3) (k:Bool) {s:Sl} {l:List UInt8} (hs:ao V s l) (hl:l.length≤100000000):aj Tryz.prog 238 [.agg (rS n k).toArray,s.v].toArray W fun v w'=>v=.bool (cO (aE n) l)∧Rel W V [] V w':=by
 have H:=Rel.start hV
 obtain ⟨G4,G6,hcut,uB⟩:=DQ hn
 refine eV Tryz.func238 14 [0,1,2,4] ?_
 refine wk ?_
 refine H.nA ?_;clear H;intro w b1 H
 refine wk ?_
 rw [uB]
 refine (NT H.data hT hM hs hl (sD n).1).use ?_
 rintro v w ⟨rfl,K⟩
 (replace H:=H.aq K)
 refine wk ?_
 first|exact H.sx|exact ⟨rfl,H.sx⟩
structure Mb (w0 V0:World) (own:List ak) (b n:Nat) (k:Bool) (V:World) (o:Option (aO×List UInt8)) (v:Value) (w':World):Prop where
 ex:∃(V':World) (c q:Sl) (f g:Bool),Sub V V'∧Rel w0 V0 (.al b [iv (n:Nat),.bool k,q.v] 336::own) V' w'∧v=.tuple #[c.v,.bool f,.bool g]∧(match o with
  | none=>g=false
  | some x=>g=true∧f=x.1.2∧ao V' c x.1.1∧ao V' q x.2)
theorem oE {V:World} {s:Sl} {l:List UInt8} (h:ao V s l) {i:Nat} (hi:i≤l.length):ao V ⟨aD s.a 0 s.cap 1,i - 0,s.cap - 0⟩ (l.take i)∧ao V ⟨aD s.a i s.cap 1,s.len - i,s.cap - i⟩ (l.drop i):=by
 have h1:=h.sub (n:=1) (fun _=>rfl) (a:=0) (b:=i) (Nat.zero_le _) hi
 have h2:=h.sub (n:=1) (fun _=>rfl) (a:=i) (b:=l.length) hi (Nat.le_refl _)
 rw [List.take_length,←h.len] at h2
 rw [List.drop_zero] at h1
 exact ⟨h1,h2⟩
theorem Nv {w0 V0:World} {own:List ak} {b n:Nat} {k:Bool} {q:Sl} {l:List UInt8} (H:Rel w0 V0 (.al b [iv (n:Nat),.bool k,q.v] 336::own) V W) (hT:kA V) (hM:jO V) (hn:n<3) (hq:ao V q l) (hl:l.length≤100000) :
  aj Tryz.prog 281 [.pointer (some ⟨b,0,none⟩)].toArray W (Mb w0 V0 own b n k V (lA (aE n) l)):=by
 generalize hw0:W=wz at H
 subst hw0
 have nY:=hq.len
 have xV:=hq.cap
 obtain ⟨G4,G6,hcut,uB⟩:=DQ hn
 refine eV Tryz.func281 102 [0,2,3,4,5,6,7,22,31,49,79] ?_
 by_cases hh:l.head?=some 34
 ·obtain ⟨t,rfl⟩:∃t,l=34::t:=by
   cases l with
   | nil=>cases hh
   | cons c t=>cases hh;exact ⟨t,rfl⟩
  obtain ⟨p0,c0⟩:=hq.aP (g:=bv) (i:=0) (fun _=>rfl) ae
  change V.cell? _=some (bv 34) at c0
  have e0:lA (aE n) (34::t)=match cE t with
   | none=>none
   | some p=>some ((p.1,true),p.2):=by unfold lA;rw [if_pos List.head?_cons];rfl
  rw [e0]
  rw [List.length_cons] at nY hl
  have uD:=(oE hq (i:=1) ae).2
  rw [show List.drop 1 (34::t)=t from rfl] at uD
  refine wk ?_
  replace H:=H.bw 5 1
  refine aK (S:=Sl×List UInt8×Sl×List UInt8) ad [0,7,22,79] (fun z=>[(2,z.1.v),(5,z.2.2.1.v)]) (fun z w'=>cE t=ou z.2.1 (cE z.2.2.2)∧ao V z.2.2.1 z.2.2.2∧z.2.1.length+z.2.2.2.length≤t.length∧Rel w0 V0 (.row z.1 5 1 (z.2.1.flatMap ay)::.al b [iv (n:Nat),.bool k,q.v] 336::own) V w') (fun z _=>z.2.2.2.length) (⟨none,0,0⟩,[],⟨aD q.a 1 q.cap 1,q.len - 1,q.cap - 1⟩,t) ?_
  conv=>whnf
  refine ⟨sB,⟨(Uj _).symm,uD,ae,H⟩,?_⟩
  clear H
  rintro ⟨cs,x,r,u⟩ w ⟨aL,hr,hxl,H⟩
  dsimp only at aL hr hxl H ⊢
  have uz:=hr.len
  have fu:=hr.cap
  refine wk ?_
  refine (RI H.data hr 34).use ?_
  rintro v w ⟨rfl,K⟩
  (replace H:=Rel.call H K)
  simp only [List.nil_append] at H
  by_cases h0:u.count 34=0
  ·have hno:¬0≤Lib.indexByte u 34:=fun h=>by
    rw [yb] at h
    have:=List.count_pos_iff.2 h
    omega
   rw [aL,J3 h0]
   generalize Lib.indexByte u 34=z at hno
   refine wk ?_
   exact ⟨V,⟨none,0,0⟩,q,true,false,Sub.refl _,H.sx,rfl,rfl⟩
  obtain ⟨a,r2,hu,ha,QM⟩:=Iz 34 (l:=u) aa
  rw [QM]
  have mO:=congrArg List.length hu
  rw [List.length_append,List.length_cons] at mO
  have pE:=(oE hr (i:=a.length) aa).1
  have gw:=(oE hr (i:=a.length+1) aa).2
  rw [show u.take a.length=a by rw [hu];simp] at pE
  rw [show u.drop (a.length+1)=r2 by rw [hu];simp] at gw
  have xA:=gw.len
  have Qi:=gw.cap
  dsimp only at xA Qi
  refine wk ?_
  (first|refine dV 6 [] [0,1,2,3,5,6,7,8,4,9,10] H ?_|refine dV 10 [] [0,3,4,1,2,5,6] H ?_|refine dV 11 [] [0,1,2,3,4,5,6,7,8,9,10,11,12,13,14,15,16,17,18] H ?_|refine dV 14 [] [0,1,2,3,4,5,6,7,8,9,10,11,12,13,14,15,16] H ?_);clear H;intro w H
  refine wk ?_
  refine Rel.gn H (i:=0) rfl pE aa ?_
  clear H
  intro eJ w H
  simp only [List.set_cons_zero] at H
  by_cases he:r2.head?=some 34
  ·obtain ⟨r3,rfl⟩:∃t,r2=34::t:=by
    cases r2 with
    | nil=>cases he
    | cons c t=>cases he;exact ⟨t,rfl⟩
   rw [List.length_cons] at mO xA
   obtain ⟨p1,c1⟩:=gw.aP (g:=bv) (i:=0) (fun _=>rfl) ae
   change V.cell? _=some (bv 34) at c1
   have jt:=(oE gw (i:=1) ae).2
   rw [show List.drop 1 (34::r3)=r3 from rfl] at jt
   refine wk ?_
   (first|refine dV 6 [] [0,1,2,3,5,6,7,8,4,9,10] H ?_|refine dV 10 [] [0,3,4,1,2,5,6] H ?_|refine dV 11 [] [0,1,2,3,4,5,6,7,8,9,10,11,12,13,14,15,16,17,18] H ?_|refine dV 14 [] [0,1,2,3,4,5,6,7,8,9,10,11,12,13,14,15,16] H ?_);clear H;intro w H
   refine H.wg ?_;clear H;intro _ w H
   refine Rel.dj (f:=ay) (s:=eJ) (l:=x++a) (x:=34) ad rfl rfl rfl rfl rfl ag (fun _=>rfl) (by simp [Value.oneCell']) H (by show ((x++a).length+1)*1≤_;rw [List.length_append];omega) (by rw [List.length_append];omega) ?_
   clear H
   intro Ob w H
   refine wk ?_
   refine ⟨sB,(Ob,x++a++[34],⟨aD (aD r.a (a.length+1) r.cap 1) 1 (r.cap - (a.length+1)) 1,r.len - (a.length+1) - 1,r.cap - (a.length+1) - 1⟩,r3),sB,⟨?_,jt,?_,H.sx⟩,?_⟩
   ·rw [aL,hu,Du ha,Db,←List.append_assoc]
   ·simp only [List.length_append,List.length_cons,List.length_nil]
    omega
   ·dsimp only
    omega
  ·have QE:cE t=some (x++a,r2):=by rw [aL,hu,Uw ha he];rfl
   rw [QE]
   cases r2 with
   | nil =>
    rw [List.length_nil] at mO xA
    refine H.wg ?_;clear H;intro w H
    obtain ⟨V2,hV2,H,hr1⟩:=Rel.aJ H (fun _=>rfl) ag
    refine wk ?_
    exact ⟨V2,eJ,_,true,true,hV2,H,rfl,rfl,rfl,hr1,gw.up hV2⟩
   | cons d r3 =>
    rw [List.length_cons] at mO xA
    obtain ⟨p1,c1⟩:=gw.aP (g:=bv) (i:=0) (fun _=>rfl) ae
    change V.cell? _=some (bv d) at c1
    have hd:d.toNat≠34:=fun h=>he (by rw [List.head?_cons];congr 1;exact UInt8.toNat_inj.1 h)
    refine H.wg ?_;clear H;intro w H
    obtain ⟨V2,hV2,H,hr1⟩:=Rel.aJ H (fun _=>rfl) ag
    refine wk ?_
    exact ⟨V2,eJ,_,true,true,hV2,H,rfl,rfl,rfl,hr1,gw.up hV2⟩
 ·have e0:lA (aE n) l=some (((dQ (aE n) l).1,false),(dQ (aE n) l).2):=by unfold lA;rw [if_neg hh]
  rw [e0]
  obtain ⟨i,hi,BR,uE⟩:∃i:Nat,i≤l.length∧(fM (aE n) l=i∧i<l.length∨fM (aE n) l = -1∧i=l.length)∧dQ (aE n) l=(l.take i,l.drop i):=by
   rcases WL (aE n) l with ⟨h1,h2⟩|⟨i,h1,h2,h3⟩
   ·exact ⟨l.length,Nat.le_refl _,.inr ⟨h1,rfl⟩,by rw [h2,List.take_length,List.drop_length]⟩
   ·exact ⟨i,aa,.inl ⟨h2,h1⟩,h3⟩
  rw [uE]
  obtain ⟨pE,gw⟩:=oE hq hi
  have YV:i≤q.len:=by rw [nY];exact hi
  generalize Iw:fM (aE n) l=za at BR
  cases l with
  | nil =>
   have hq0:q.len=0:=nY
   refine wk ?_
   (first|refine dV 6 [] [0,1,2,3,5,6,7,8,4,9,10] H ?_|refine dV 10 [] [0,3,4,1,2,5,6] H ?_|refine dV 11 [] [0,1,2,3,4,5,6,7,8,9,10,11,12,13,14,15,16,17,18] H ?_|refine dV 14 [] [0,1,2,3,4,5,6,7,8,9,10,11,12,13,14,15,16] H ?_);clear H;intro w H
   refine wk ?_
   rw [uB]
   refine (Cs H.data hT hM hq aa (sD n).1).use ?_
   rintro v w ⟨rfl,K⟩
   (replace H:=Rel.call H K)
   simp only [List.nil_append] at H
   rw [Iw]
   rcases BR with ⟨rfl,cq⟩|⟨rfl,cq⟩
   ·refine wk ?_
    refine wk ?_
    (first|refine dV 6 [] [0,1,2,3,5,6,7,8,4,9,10] H ?_|refine dV 10 [] [0,3,4,1,2,5,6] H ?_|refine dV 11 [] [0,1,2,3,4,5,6,7,8,9,10,11,12,13,14,15,16,17,18] H ?_|refine dV 14 [] [0,1,2,3,4,5,6,7,8,9,10,11,12,13,14,15,16] H ?_);clear H;intro w H
    refine H.wg ?_;clear H;intro w H
    refine (pa H.data pE (by rw [List.length_take];omega)).use ?_
    rintro v w ⟨r,rfl,K⟩
    (replace H:=Rel.call H K)
    simp only [List.cons_append,List.nil_append] at H
    obtain ⟨V2,hV2,H,hr1⟩:=Rel.aJ H (fun _=>rfl) ag
    refine wk ?_
    exact ⟨V2,r,_,false,true,hV2,H,rfl,rfl,rfl,hr1,gw.up hV2⟩
   ·obtain rfl:i=q.len:=by first|omega|(rw [cq,nY];rfl)
    refine wk ?_
    refine wk ?_
    (first|refine dV 6 [] [0,1,2,3,5,6,7,8,4,9,10] H ?_|refine dV 10 [] [0,3,4,1,2,5,6] H ?_|refine dV 11 [] [0,1,2,3,4,5,6,7,8,9,10,11,12,13,14,15,16,17,18] H ?_|refine dV 14 [] [0,1,2,3,4,5,6,7,8,9,10,11,12,13,14,15,16] H ?_);clear H;intro w H
    refine H.wg ?_;clear H;intro w H
    refine (pa H.data pE (by rw [List.length_take];omega)).use ?_
    rintro v w ⟨r,rfl,K⟩
    (replace H:=Rel.call H K)
    simp only [List.cons_append,List.nil_append] at H
    obtain ⟨V2,hV2,H,hr1⟩:=Rel.aJ H (fun _=>rfl) ag
    refine wk ?_
    exact ⟨V2,r,_,false,true,hV2,H,rfl,rfl,rfl,hr1,gw.up hV2⟩
  | cons d t =>
   obtain ⟨p0,c0⟩:=hq.aP (g:=bv) (i:=0) (fun _=>rfl) ae
   change V.cell? _=some (bv d) at c0
   have hd:d.toNat≠34:=fun h=>hh (by rw [List.head?_cons];congr 1;exact UInt8.toNat_inj.1 h)
   rw [List.length_cons] at nY
   refine wk ?_
   (first|refine dV 6 [] [0,1,2,3,5,6,7,8,4,9,10] H ?_|refine dV 10 [] [0,3,4,1,2,5,6] H ?_|refine dV 11 [] [0,1,2,3,4,5,6,7,8,9,10,11,12,13,14,15,16,17,18] H ?_|refine dV 14 [] [0,1,2,3,4,5,6,7,8,9,10,11,12,13,14,15,16] H ?_);clear H;intro w H
   refine wk ?_
   rw [uB]
   refine (Cs H.data hT hM hq aa (sD n).1).use ?_
   rintro v w ⟨rfl,K⟩
   (replace H:=Rel.call H K)
   simp only [List.nil_append] at H
   rw [Iw]
   rcases BR with ⟨rfl,cq⟩|⟨rfl,cq⟩
   ·refine wk ?_
    refine wk ?_
    (first|refine dV 6 [] [0,1,2,3,5,6,7,8,4,9,10] H ?_|refine dV 10 [] [0,3,4,1,2,5,6] H ?_|refine dV 11 [] [0,1,2,3,4,5,6,7,8,9,10,11,12,13,14,15,16,17,18] H ?_|refine dV 14 [] [0,1,2,3,4,5,6,7,8,9,10,11,12,13,14,15,16] H ?_);clear H;intro w H
    refine H.wg ?_;clear H;intro w H
    refine (pa H.data pE (by rw [List.length_take];omega)).use ?_
    rintro v w ⟨r,rfl,K⟩
    (replace H:=Rel.call H K)
    simp only [List.cons_append,List.nil_append] at H
    obtain ⟨V2,hV2,H,hr1⟩:=Rel.aJ H (fun _=>rfl) ag
    refine wk ?_
    exact ⟨V2,r,_,false,true,hV2,H,rfl,rfl,rfl,hr1,gw.up hV2⟩
   ·obtain rfl:i=q.len:=by first|omega|(rw [cq,nY];rfl)
    refine wk ?_
    refine wk ?_
    (first|refine dV 6 [] [0,1,2,3,5,6,7,8,4,9,10] H ?_|refine dV 10 [] [0,3,4,1,2,5,6] H ?_|refine dV 11 [] [0,1,2,3,4,5,6,7,8,9,10,11,12,13,14,15,16,17,18] H ?_|refine dV 14 [] [0,1,2,3,4,5,6,7,8,9,10,11,12,13,14,15,16] H ?_);clear H;intro w H
    refine H.wg ?_;clear H;intro w H
    refine (pa H.data pE (by rw [List.length_take];omega)).use ?_
    rintro v w ⟨r,rfl,K⟩
    (replace H:=Rel.call H K)
    simp only [List.cons_append,List.nil_append] at H
    obtain ⟨V2,hV2,H,hr1⟩:=Rel.aJ H (fun _=>rfl) ag
    refine wk ?_
    exact ⟨V2,r,_,false,true,hV2,H,rfl,rfl,rfl,hr1,gw.up hV2⟩
end
end Go.Proofs.YtmoiobegbpkkbaaGreatDoor
