import Derived.Test.YtmoiobegbpkkbaaGreatDoorRAE
open Decidable renaming byContradiction->qU,not_not->qV
open List renaming getElem?_map->eu,getElem?_range->pP,all_eq_true->bj,getElem?_eq_none->jk,mem_cons->bB,append_nil->cm,length_nil->aI,take_append_drop->eN,getElem?_eq_some_iff->cW,length_cons->av,take_of_length_le->bR,drop_drop->oC,cons_append->aL,nil_append->aA,length_append->aq,length_take->bb,length_drop->bd,drop_left->k7,take_left->pX,flatMap_cons->bz,mem_range->sN,eq_nil_of_length_eq_zero->bL,drop_eq_nil_of_le->Gg,mem_of_getElem?->fH,not_mem_nil->pQ,take_succ_eq_append_getElem->bZ,drop_eq_getElem_cons->j4,getElem?_append_left->vL,flatMap_append->bT,flatMap_nil->gB,map_cons->fq,map_congr_left->kY,drop_zero->kZ,getElem?_eq_getElem->a8,tail_cons->mJ,getElem?_append_right->DA,set_cons_zero->bC,flatten_cons->ji,length_map->bu,range_succ_eq_map->DB,map_map->kz,ext_getElem?->vP,getElem_cons_zero->pU,drop_one->A0,append_eq_nil_iff->A1,length_pos_iff->jF,length_range->qX,mem_iff_getElem->DD
open Nat renaming le_refl->aK,add_zero->mK,succ_mul->mL,mul_le_mul_right->iD,mul_comm->mM,add_mul->uc,zero_le->cu,mul_assoc->AX,mul_le_mul->lU
open UInt8 renaming toNat_ofNat'->jl,toNat_inj->eF,ofNat_toNat->A2
namespace Go.Proofs.YtmoiobegbpkkbaaGreatDoor
open Go Go.RowKit
set_option maxRecDepth 100000
set_option maxHeartbeats 8000000
variable{α β:Type}{V:ae}{n i c rate ch coding h k size f w:Nat}{s l r b X B d:ad}{cs:List bO}{ns:List cB}{v x:ar}{q:Sl}{wd ht:Int}{R:bg}
abbrev jf:ad:=[83,78,68,49]
theorem Pw.drop{R:ae->β->α->Prop}{x:β}{y:α}{xs:List β}{ys:List α}(h:Pw R V (x::xs) (y::ys)):R V x y/\Pw R V xs ys :=
 ⟨h.all 0 x y rfl rfl,by have:=h.len;simpa using this,λk a b h1 h2=>h.all (k+1) a b (by simpa using h1) (by simpa using h2)⟩
theorem Pw.cons_inv{R:ae->β->α->Prop}{y:α}{xs:List β}{ys:List α}(h:Pw R V xs (y::ys)):∃x t,xs=x::t/\R V x y/\Pw R V t ys:=by
 cases xs with
 | nil=>have:=h.len;simp at this
 | cons x t=>exact⟨x,t,rfl,h.drop.1,h.drop.2⟩
theorem aB.tail{f:α->aD}{s:Sl}{x:α}{l:List α}(h:aB f V s (x::l))(hf:∀x,(f x).length=n):aB f V ⟨aU s.a 1 s.cap n,s.len-1,s.cap-1⟩ l:=by
 have hl:=h.len;have:=h.sub hf (a:=1) (b:=s.len) (by simp at hl;omega) aa;rw[hl,bR ai,A0,mJ]at this;rw[<-hl]at this;exact this
theorem AP(c:UInt8)(n:Nat)(hl:n<=65535):[bv c,Value.int .u8 (wr .u8 ((n:Int)/2^min (Int.toNat 8) IntKind.i64.bits)),Value.int .u8 (wr .u8 (n:Int))]=[c,UInt8.ofNat (n/256),UInt8.ofNat (n%256)].flatMap aE:=by
 have e0:(2:Int)^min (Int.toNat 8) IntKind.i64.bits=256:=ag;have e1:wr .u8 ((n:Int)/256)=((n/256:Nat):Int):=by show((n:Int)/256)%256=_;omega
 have e2:wr .u8 (n:Int)=((n%256:Nat):Int):=by show(n:Int)%256=_;omega
 simp only[e0,e1,e2,bz,gB,aE,bv,aL,aA];rw[cH aa,cH aa]
theorem AQ{c:bO}(h:cs[i]?=some c):jf++(cs.take (i+1)).flatMap dL=(jf++(cs.take i).flatMap dL++[c.1,UInt8.ofNat (c.2.length/256),UInt8.ofNat (c.2.length%256)])++c.2:=by
 obtain⟨h1,h2⟩:=cW.1 h;rw[bZ h1,h2];simp[dL]
theorem PL{l:List bO}(h:∀c∈l,c.2.length<=1000):(l.flatMap dL).length<=l.length*1003:=by
 induction l with
 | nil=>simp
 | cons c l ih =>
  have h1:=h c ai;have h2:=ih λx hx=>h x (by simp[hx]);simp only[bz,aq,Lg,av];omega
def wQ(cs:List bO):Prop:=∃c∈cs,1000<c.2.length
instance(cs:List bO):Decidable (wQ cs):=by unfold wQ;infer_instance
structure Xg(W V:ae)(rate ch coding:Nat)(l:List Int)(ns:List cB)(q:ao)(w':ae):Prop where
 ex:∃(V':ae) (r:Sl),Sub V V'/\Rel W V [] V' w'/\((wQ (eQ (ns.length+2) 0 ns (j6 rate ch coding l))/\q=.tuple #[.slice none 0 0,.bool false]) \/
  (¬wQ (eQ (ns.length+2) 0 ns (j6 rate ch coding l))/\q=.tuple #[r.v,.bool true]/\ay V' r (lp rate ch coding l ns)))
structure HL where
 i:Nat
 t8:Sl
 ps:List fC
 nr:List cB
 t6:Sl
 hs:List nS
 o:List bO
structure BD(V:ae)(cs:List bO)(N:Nat)(k:HL):Prop where
 le:k.i<=N
 ws:WS (N-k.i) k.i k.nr k.o
 wv:eQ (N-k.i) k.i k.nr k.o=cs.drop k.i
 n1:aB pG V k.t8 k.ps
 n2:Pw Bw V k.ps k.nr
 o1:aB wW V k.t6 k.hs
 o2:Pw rJ V k.hs k.o
 ok:∀c∈cs.take k.i,c.2.length<=1000
theorem UY{c:bO}(h:∀c∈cs.take i,c.2.length<=1000)(hc:cs[i]?=some c)(hl:c.2.length<=1000):∀c∈cs.take (i+1),c.2.length<=1000:=by
 obtain⟨h1,h2⟩:=cW.1 hc;intro d hd;rw[bZ h1]at hd;rcases List.mem_append.1 hd with hd|hd
 ·exact h d hd
 ·rw[List.mem_singleton.1 hd,h2];exact hl
theorem BD.step{N:Nat}{k:HL}(h:BD V cs N k)(hN:cs.length=N)(hlt:k.i<N) :
  (∃p pt m r,k.ps=p::pt/\k.nr=m::r/\p.1=m/\ay V p.2 m.2.2/\m.1=(k.i:Int)/\cs[k.i]?=some m.2/\(m.2.2.length<=1000->BD V cs N ⟨k.i+1,⟨aU k.t8.a 1 k.t8.cap 3,k.t8.len-1,k.t8.cap-1⟩,pt,r,k.t6,k.hs,k.o⟩)) \/
  (∃x xt c r,k.hs=x::xt/\k.o=c::r/\rJ V x c/\(∀m t,k.nr=m::t->m.1≠(k.i:Int))/\cs[k.i]?=some c/\(c.2.length<=1000->BD V cs N ⟨k.i+1,k.t8,k.ps,k.nr,⟨aU k.t6.a 1 k.t6.cap 2,k.t6.len-1,k.t6.cap-1⟩,xt,r⟩)):=by
 obtain⟨n,hn⟩:∃n,N-k.i=n+1:=⟨N-k.i-1,aa⟩
 have hn':N-(k.i+1)=n:=aa;have Rp:=h.ws;have x8:=h.wv;rw[hn]at Rp x8;have hat:∀(c:bO) (t:List bO),c::t=cs.drop k.i->cs[k.i]?=some c/\t=cs.drop (k.i+1):=by
  intro c t e;rw[j4 aa]at e;injection e with e1 e2
  exact⟨by rw[a8 aa,e1],e2⟩
 rcases air Rp with⟨m,r,e1,e2,e3,e4⟩|⟨c,r,e1,e2,e3,e4⟩
 ·left;have n2:=h.n2;rw[e1]at n2;obtain⟨p,pt,f1,f2,f3⟩:=n2.cons_inv;rw[e3]at x8;obtain⟨g1,g2⟩:=hat _ _ x8;have n1:=h.n1;rw[f1]at n1;refine⟨p,pt,m,r,f1,e1,f2.1,by rw[<-f2.1];exact f2.2,e2,g1,λhl=>⟨by dsimp only;omega,by dsimp only;rw[hn'];exact e4,by dsimp only;rw[hn'];exact g2,n1.tail (λ_=>rfl),f3,h.o1,h.o2,UY h.ok g1 hl⟩⟩
 ·right;have o2:=h.o2;rw[e1]at o2;obtain⟨x,xt,f1,f2,f3⟩:=o2.cons_inv;rw[e3]at x8;obtain⟨g1,g2⟩:=hat _ _ x8;have o1:=h.o1;rw[f1]at o1;refine⟨x,xt,c,r,f1,e1,f2,e2,g1,λhl=>⟨by dsimp only;omega,by dsimp only;rw[hn'];exact e4,by dsimp only;rw[hn'];exact g2,h.n1,h.n2,o1.tail (λ_=>rfl),f3,UY h.ok g1 hl⟩⟩
abbrev I6(rate ch coding:Nat):aD:=[.int .u8 (wr .u8 ((rate:Int)/2^min (Int.toNat 8) IntKind.i64.bits)),.int .u8 (wr .u8 (rate:Int)),.int .u8 (wr .u8 (ch:Int)),.int .u8 (wr .u8 (coding:Int))]
theorem Z6(h1:rate<=65535)(h2:ch<256)(h3:coding<256):I6 rate ch coding=(pj rate ch coding).flatMap aE:=by
 have e0:(2:Int)^min (Int.toNat 8) IntKind.i64.bits=256:=ag;have e1:wr .u8 ((rate:Int)/256)=((rate/256:Nat):Int):=by show((rate:Int)/256)%256=_;omega
 have e2:wr .u8 (rate:Int)=((rate%256:Nat):Int):=by show(rate:Int)%256=_;omega
 have e3:wr .u8 (ch:Int)=(ch:Int):=by show(ch:Int)%256=_;omega
 have e4:wr .u8 (coding:Int)=(coding:Int):=by show(coding:Int)%256=_;omega
 simp only[I6,pj,e0,e1,e2,e3,e4,bz,gB,aE,bv,aL,aA];rw[cH aa,cH aa,cH aa,cH aa]
section
variable{V W:ae}
theorem aiK(hV:Sub V W){rate ch coding:Nat}{fK:List Int}{ns:List cB}{rs rn:Sl}(hra:rate<=65535)(hc:coding<4)(hch:1<=ch/\ch<=2)(hs:aB cK V rs fK)(hl:fK.length<=1000000)(hb:∀x∈fK, -32768<=x/\x<=32767)(hn:rK V rn ns)(hnl:ns.length<=1000)(hno:gj ns.length (-1) ns=true) :
  aC 149 [.agg (u5 rate ch coding rs rn).toArray] W (Xg W V rate ch coding fK ns):=by
 have H:=Rel.start hV;refine eV Tryz.func149 93 [0,1,2,3,4,5,6,7,8,9,10,42,43,44,56,71] ?_;refine wk ?_;refine H.nA ?_;clear H;intro w b1 H;refine wk ?_;refine H.nA ?_;clear H;intro w b4 H;refine H.wg ?_;clear H;intro w H;have H0:Rel W V [.ax b4 (fmtC rate ch coding) 171,.ax b1 (u5 rate ch coding rs rn) 174] V w:=H;obtain⟨V1,hV1,H,Cw⟩:=H0.bt;clear H0;obtain⟨V2,hV2,H,fE⟩:=H.bt;replace Cw:=Cw.cells.fa hV2;have f0:=Cw.2 0 _ rfl;have f1:=Cw.2 1 _ rfl;have f2:=Cw.2 2 _ rfl;have f3:=fE.bE (i:=3) rfl;have f4:=fE.bE (i:=4) rfl
 refine aP.uX (λq:Nat×Nat×Sl=>[(1,.pointer (some ⟨b1,0,none⟩)),(2,.slice none 0 0),(3,.bool false),(6,.slice (some ⟨q.2.1,0,none⟩) 2 2)])
  (λq w'=>Rel W V [.ax q.2.1 [.int .u8 70,.slice (some ⟨q.1,0,none⟩) 4 4,.int .u8 68,q.2.2.v] 279,.row q.2.2 5 1 ((lj fK coding ch).flatMap aE),.ax q.1 (I6 rate ch coding) 5] V2 w') ?_ ?_
 ·(first|refine cz (id:=3) ah mixed (Kv V2) Kv.trans [13,19,20] [1,3,5,6,8,9,11,12,16,18] [0,1,2,3,4,5,6,7,8,9,10,11,12,15,16,17,18,13,14,19,20,21,22] [(13,[]),(19,[]),(20,[19]),(21,[13,19,20])] aj ?_|refine cz (id:=11) ah mixed (Kv V2) Kv.trans [] [] [0,1,2,3,4,5,6,7] [(6,[])] aj ?_|refine cz (id:=12) ah mixed (Kv V2) Kv.trans [] [] [0,1,2,3,4,5,6] [(5,[])] aj ?_|refine cz (id:=15) ah mixed (Kv V2) Kv.trans [12,13] [15] [0,1,2,3,4,5,6,7,8,9,10,11,14,15,12,13,16,17] [(12,[]),(13,[12]),(16,[12,13])] aj ?_);intro w aR;replace H:=Rel.ext H aR.ext;repeat' (refine wk ?_;first|(first|refine Kv.go H ?_|refine Kv.go2 H (by assumption) ?_|(refine And.intro (λw1 hkp=>?_) ?_;focus ((first|have H:=Kv.in H hkp|have H:=Kv.gi H (by assumption) hkp);((repeat ((conv=>whnf);first|refine an ?_|refine H.ce ?_|refine H.db ?_|refine ea ?_|refine ol ?_|fail|refine cT ?_|refine cF ?_|refine cN ?_|refine cM ?_|refine H.da (hc2 _ _ aW) ?_|refine H.eU hc2 aW ?_|refine H.eT hc2 aW ?_|refine H.lw ?_|refine H.ll ?_));(conv=>whnf));all_goals (first|exact⟨rfl,rfl⟩|exact rfl)))|refine And.intro ?_ ?_|(refine H.nA ?_;clear H;intro w _ H))|(refine(Zw (rate:=rate) H.data hc hch ((hs.up hV1).up hV2) hl hb).use ?_;rintro v w⟨r,rfl,K⟩;(replace H:=Rel.call H K);simp only[aL,aA]at H))
  all_goals
   refine wk ?_;exact⟨(_,_,_),sB,H.pick⟩
 clear H;rintro⟨bf,bc,re⟩w H;dsimp only at H;obtain⟨V3,aw,H,hbc⟩:=H.bt;obtain⟨V4,aG,H,xX⟩:=Rel.aT H (λ_=>rfl) ag;replace H:=H.bA (Z6 hra aa aa);obtain⟨V5,aQ,H,hbf⟩:=H.bt;have J6:aB wW V5 ⟨some ⟨bc,0,none⟩,2,2⟩ [(70,⟨some ⟨bf,0,none⟩,4,4⟩),(68,re)]:=⟨rfl,aK _,(hbc.cells.fa aG).fa aQ⟩
 have hfb:ay V5 ⟨some ⟨bf,0,none⟩,4,4⟩ (pj rate ch coding):=⟨rfl,aK _,hbf.cells⟩
 have hpo:Pw rJ V5 [(70,⟨some ⟨bf,0,none⟩,4,4⟩),(68,re)] (j6 rate ch coding fK):=⟨rfl,λk x y hx hy=>by
  match k,hx,hy with
  | 0,hx,hy=>cases hx;cases hy;exact⟨rfl,hfb⟩
  | 1,hx,hy=>cases hx;cases hy;exact⟨rfl,xX.up aQ⟩
  | k+2,hx,hy=>simp at hx⟩
 refine wk ?_;refine H.nA ?_;clear H;intro w bm H;refine wk ?_;refine Rel.uW (l:=jf) Tryz.underlying22 Tryz.underlying5 H rfl ?_;clear H;intro V6 w cg hm H;have gJ:=((aw.trans aG).trans aQ).trans cg;replace f3:=gJ.cell f3;replace f4:=gJ.cell f4;obtain⟨ps,hps,hpw⟩:=(((hn.up hV1).up hV2).up gJ)
 replace J6:=J6.up cg;replace hpo:=hpo.up rJ.up cg;have Ra:=hpw.len;have ajk:=hps.len;obtain⟨cs,hcs⟩:∃cs,cs=eQ (ns.length+2) 0 ns (j6 rate ch coding fK):=⟨_,rfl⟩
 have hcl:cs.length=ns.length+2:=by rw[hcs,Hu]
 have jA:lp rate ch coding fK ns=jf++(cs.flatMap dL++[0]):=by rw[hcs];rfl
 refine wk ?_;refine aY (S:=HL×Sl) ah [0,1,4,5,42] (λk=>[(6,k.1.t6.v),(7,k.2.v),(8,k.1.t8.v),(43,iv k.1.i)]) (λk w'=>BD V6 cs (ns.length+2) k.1/\((k.1.i=0/\k.2=⟨some ⟨bm,0,none⟩,4,4⟩/\Rel W V [] V6 w')\/(0<k.1.i/\Rel W V [.row k.2 5 1 ((jf++(cs.take k.1.i).flatMap dL).flatMap aE)] V6 w'))) (λk _=>ns.length+2-k.1.i) (⟨0,rn,ps,ns,⟨some ⟨bc,0,none⟩,2,2⟩,[(70,⟨some ⟨bf,0,none⟩,4,4⟩),(68,re)],j6 rate ch coding fK⟩,⟨some ⟨bm,0,none⟩,4,4⟩) ?_;conv=>whnf
 refine⟨sB,⟨⟨by dsimp only;omega,WS.start hno rfl,by rw[hcs];rfl,hps,hpw,J6,hpo,ai⟩,.inl ⟨rfl,rfl,H⟩⟩,?_⟩;clear H;rintro⟨k,out⟩w⟨hI,hout⟩;dsimp only at hI hout |-;have JP:=hI.le;have hsz:=PL hI.ok;have abv:(cs.take k.i).length<=1002:=by rw[bb];omega
 have ajp:=iD 1003 abv;by_cases hlt:k.i<ns.length+2;rotate_left
 ·rcases hout with⟨h0,_⟩|⟨_,H⟩
  ·omega
  have lH:¬wQ cs:=by
   rintro⟨c,hc,hc2⟩;have:=hI.ok c (by rw[bR aa];exact hc);omega
  rw[bR aa]at H hsz;refine H.wg ?_;clear H;intro _ w H;refine Rel.dC (f:=aE) (l:=jf++cs.flatMap dL) (x:=0) ah rfl rfl rfl rfl rfl ag (λ_=>rfl) (bj.1 rfl) H (by simp only[aq,av,aI];omega) (by simp only[aq,av,aI];omega) ?_;clear H;intro r w H;refine wk ?_;obtain⟨V7,dQ,H,hr⟩:=Rel.aT H (λ_=>rfl) ag;exact⟨V7,r,((hV1.trans hV2).trans gJ).trans dQ,H.sx,.inr ⟨by rw[<-hcs];exact lH,rfl,by rw[jA,<-List.append_assoc];exact hr⟩⟩
 rcases hI.step hcl hlt with⟨p,pt,m,r,e1,e2,e3,e4,e5,e6,e7⟩|⟨x,xt,c,r,e1,e2,e3,e4,e5,e6⟩
 ·have n1:=hI.n1;rw[e1]at n1;have J0:=n1.len;simp only[av]at J0;obtain⟨hp,q1,q2,q3⟩:=n1.mZ (g:=λp:fC=>bv p.1.2.1) (g':=λp:fC=>p.2.v) (g'':=λp:fC=>iv p.1.1) (λ_=>rfl) (i:=0) ai;simp only[pU]at q1 q2 q3;rw[e3]at q1;rw[e3,e5]at q3;have hdl:=e4.len;rcases hout with⟨h0,rfl,H⟩|⟨h0,H⟩
  ·refine wk ?_;refine H.nA ?_;clear H;intro w ix H;refine wk ?_;(first|refine dV 11 [] [0,1,2,3,4,5,6,7] H ?_|refine dV 12 [] [0,1,2,3,4,5,6] H ?_|refine dV 15 [12,13] [0,1,2,3,4,5,6,7,8,9,10,11,14,15,12,13,16,17] H ?_);clear H;intro w H;refine H.wg ?_;clear H;intro w H;by_cases hbig:1000<(m.2).2.length
   ·refine wk ?_;exact⟨V6,⟨none,0,0⟩,(hV1.trans hV2).trans gJ,H.sx,.inl ⟨by rw[<-hcs];exact⟨m.2,fH (by assumption),hbig⟩,rfl⟩⟩
   obtain⟨V7,dQ,H,kN⟩:=H.bt;have y0:=kN.bE (i:=0) rfl;have y1:=kN.bE (i:=1) rfl;have iL:ay V7 (p.2) (m.2).2:=(by assumption:ay V6 (p.2) (m.2).2).up dQ;have jc:=AQ (cs:=cs) (i:=k.i) (c:=m.2) (by assumption);have mw:(jf++(cs.take k.i).flatMap dL).length<=1100000:=by
    rw[aq];simp only[av,aI];omega
   refine wk ?_;(first|refine cz (id:=3) ah mixed (Kv V7) Kv.trans [13,19,20] [1,3,5,6,8,9,11,12,16,18] [0,1,2,3,4,5,6,7,8,9,10,11,12,15,16,17,18,13,14,19,20,21,22] [(13,[]),(19,[]),(20,[19]),(21,[13,19,20])] aj ?_|refine cz (id:=11) ah mixed (Kv V7) Kv.trans [] [] [0,1,2,3,4,5,6,7] [(6,[])] aj ?_|refine cz (id:=12) ah mixed (Kv V7) Kv.trans [] [] [0,1,2,3,4,5,6] [(5,[])] aj ?_|refine cz (id:=15) ah mixed (Kv V7) Kv.trans [12,13] [15] [0,1,2,3,4,5,6,7,8,9,10,11,14,15,12,13,16,17] [(12,[]),(13,[12]),(16,[12,13])] aj ?_);intro w aR;replace H:=Rel.ext H aR.ext;repeat' (refine wk ?_;(first|refine Kv.go H ?_|refine Kv.go2 H (by assumption) ?_|(refine And.intro (λw1 hkp=>?_) ?_;focus ((first|have H:=Kv.in H hkp|have H:=Kv.gi H (by assumption) hkp);((repeat ((conv=>whnf);first|refine an ?_|refine H.ce ?_|refine H.db ?_|refine ea ?_|refine ol ?_|fail|refine cT ?_|refine cF ?_|refine cN ?_|refine cM ?_|refine H.da (hc2 _ _ aW) ?_|refine H.eU hc2 aW ?_|refine H.eT hc2 aW ?_|refine H.lw ?_|refine H.ll ?_));(conv=>whnf));all_goals (first|exact⟨rfl,rfl⟩|exact rfl)))|refine And.intro ?_ ?_|(refine H.nA ?_;clear H;intro w _ H)))
   refine wk ?_;replace H:=H.bA (AP (m.2.1) (p.2).len aa);rw[hdl]at H;have py:cs.take k.i=[]:=by rw[h0];rfl
   refine Rel.BH (s:=⟨some ⟨bm,0,none⟩,4,4⟩) (x:=⟨some ⟨_,0,none⟩,3,3⟩) (xs:=jf.flatMap aE) (ys:=[m.2.1,UInt8.ofNat ((m.2).2.length/256),UInt8.ofNat ((m.2).2.length%256)].flatMap aE) ah rfl rfl rfl rfl rfl ag H ((hm.up dQ).up H.data).cells rfl rfl H.ql.cells rfl (by show 0<3;decide) (by show(4+3)*1<=140737488355328;decide) (by show 4+3<=4611686018427387904;decide) ?_;clear H;intro r1 w sv H _;rw[<-bT]at H;repeat' (refine wk ?_;(first|refine Kv.go H ?_|refine Kv.go2 H (by assumption) ?_|(refine And.intro (λw1 hkp=>?_) ?_;focus ((first|have H:=Kv.in H hkp|have H:=Kv.gi H (by assumption) hkp);((repeat ((conv=>whnf);first|refine an ?_|refine H.ce ?_|refine H.db ?_|refine ea ?_|refine ol ?_|fail|refine cT ?_|refine cF ?_|refine cN ?_|refine cM ?_|refine H.da (hc2 _ _ aW) ?_|refine H.eU hc2 aW ?_|refine H.eT hc2 aW ?_|refine H.lw ?_|refine H.ll ?_));(conv=>whnf));all_goals (first|exact⟨rfl,rfl⟩|exact rfl)))|refine And.intro ?_ ?_|(refine H.nA ?_;clear H;intro w _ H)))
   refine wk ?_;refine Rel.eJ H (i:=0) rfl iL (by simp only[aq,av,aI];omega) ?_;clear H;intro r2 w H;simp only[bC]at H;replace H:=H.less ((hV1.trans hV2).trans gJ) dQ;refine wk ?_;rw[show jf=jf++(cs.take k.i).flatMap dL by rw[py];rfl,<-jc]at H;exact⟨sB,(⟨k.i+1,⟨aU k.t8.a 1 k.t8.cap 3,k.t8.len-1,k.t8.cap-1⟩,pt,r,k.t6,k.hs,k.o⟩,r2),sB,⟨e7 aa,.inr ⟨by dsimp only;omega,H.sx⟩⟩,by dsimp only;omega⟩
  ·refine wk ?_;refine H.nA ?_;clear H;intro w ix H;refine wk ?_;(first|refine dV 11 [] [0,1,2,3,4,5,6,7] H ?_|refine dV 12 [] [0,1,2,3,4,5,6] H ?_|refine dV 15 [12,13] [0,1,2,3,4,5,6,7,8,9,10,11,14,15,12,13,16,17] H ?_);clear H;intro w H;refine H.wg ?_;clear H;intro w H;by_cases hbig:1000<(m.2).2.length
   ·refine wk ?_;exact⟨V6,⟨none,0,0⟩,(hV1.trans hV2).trans gJ,H.sx,.inl ⟨by rw[<-hcs];exact⟨m.2,fH (by assumption),hbig⟩,rfl⟩⟩
   obtain⟨V7,dQ,H,kN⟩:=H.bt;have y0:=kN.bE (i:=0) rfl;have y1:=kN.bE (i:=1) rfl;have iL:ay V7 (p.2) (m.2).2:=(by assumption:ay V6 (p.2) (m.2).2).up dQ;have jc:=AQ (cs:=cs) (i:=k.i) (c:=m.2) (by assumption);have mw:(jf++(cs.take k.i).flatMap dL).length<=1100000:=by
    rw[aq];simp only[av,aI];omega
   refine wk ?_;(first|refine cz (id:=3) ah mixed (Kv V7) Kv.trans [13,19,20] [1,3,5,6,8,9,11,12,16,18] [0,1,2,3,4,5,6,7,8,9,10,11,12,15,16,17,18,13,14,19,20,21,22] [(13,[]),(19,[]),(20,[19]),(21,[13,19,20])] aj ?_|refine cz (id:=11) ah mixed (Kv V7) Kv.trans [] [] [0,1,2,3,4,5,6,7] [(6,[])] aj ?_|refine cz (id:=12) ah mixed (Kv V7) Kv.trans [] [] [0,1,2,3,4,5,6] [(5,[])] aj ?_|refine cz (id:=15) ah mixed (Kv V7) Kv.trans [12,13] [15] [0,1,2,3,4,5,6,7,8,9,10,11,14,15,12,13,16,17] [(12,[]),(13,[12]),(16,[12,13])] aj ?_);intro w aR;replace H:=Rel.ext H aR.ext;repeat' (refine wk ?_;(first|refine Kv.go H ?_|refine Kv.go2 H (by assumption) ?_|(refine And.intro (λw1 hkp=>?_) ?_;focus ((first|have H:=Kv.in H hkp|have H:=Kv.gi H (by assumption) hkp);((repeat ((conv=>whnf);first|refine an ?_|refine H.ce ?_|refine H.db ?_|refine ea ?_|refine ol ?_|fail|refine cT ?_|refine cF ?_|refine cN ?_|refine cM ?_|refine H.da (hc2 _ _ aW) ?_|refine H.eU hc2 aW ?_|refine H.eT hc2 aW ?_|refine H.lw ?_|refine H.ll ?_));(conv=>whnf));all_goals (first|exact⟨rfl,rfl⟩|exact rfl)))|refine And.intro ?_ ?_|(refine H.nA ?_;clear H;intro w _ H)))
   refine wk ?_;replace H:=H.bA (AP (m.2.1) (p.2).len aa);rw[hdl]at H;replace H:=H.fA (n:=3) (e:=5) (sz:=1) rfl (by simp[maxLen]);refine Rel.dD H (i:=0) rfl (by simp only[av,aI];omega) ?_;clear H;intro r1 w H;repeat' (refine wk ?_;(first|refine Kv.go H ?_|refine Kv.go2 H (by assumption) ?_|(refine And.intro (λw1 hkp=>?_) ?_;focus ((first|have H:=Kv.in H hkp|have H:=Kv.gi H (by assumption) hkp);((repeat ((conv=>whnf);first|refine an ?_|refine H.ce ?_|refine H.db ?_|refine ea ?_|refine ol ?_|fail|refine cT ?_|refine cF ?_|refine cN ?_|refine cM ?_|refine H.da (hc2 _ _ aW) ?_|refine H.eU hc2 aW ?_|refine H.eT hc2 aW ?_|refine H.lw ?_|refine H.ll ?_));(conv=>whnf));all_goals (first|exact⟨rfl,rfl⟩|exact rfl)))|refine And.intro ?_ ?_|(refine H.nA ?_;clear H;intro w _ H)))
   refine wk ?_;refine Rel.eJ H (i:=0) rfl iL (by simp only[aq,av,aI]at mw |-;omega) ?_;clear H;intro r2 w H;simp only[bC]at H;replace H:=H.less ((hV1.trans hV2).trans gJ) dQ;refine wk ?_;rw[<-jc]at H;exact⟨sB,(⟨k.i+1,⟨aU k.t8.a 1 k.t8.cap 3,k.t8.len-1,k.t8.cap-1⟩,pt,r,k.t6,k.hs,k.o⟩,r2),sB,⟨e7 aa,.inr ⟨by dsimp only;omega,H.sx⟩⟩,by dsimp only;omega⟩
 ·have o1:=hI.o1;rw[e1]at o1;have J0:=o1.len;simp only[av]at J0;obtain⟨hp,q1,q2⟩:=o1.fM (g:=λx:nS=>bv x.1) (g':=λx:nS=>x.2.v) (λ_=>rfl) (i:=0) ai;simp only[pU]at q1 q2;obtain⟨hxi,Ar⟩:=e3;rw[hxi]at q1;have e4':=Ar;have hdl:=Ar.len;have n1:=hI.n1;have n2:=hI.n2;have Q2:=n1.len;have Q3:=n2.len;cases hnr:k.nr with
  | nil =>
   rw[hnr]at Q3;simp only[aI]at Q3;rcases hout with⟨h0,rfl,H⟩|⟨h0,H⟩
   ·refine wk ?_;refine H.nA ?_;clear H;intro w ix H;refine wk ?_;(first|refine dV 11 [] [0,1,2,3,4,5,6,7] H ?_|refine dV 12 [] [0,1,2,3,4,5,6] H ?_|refine dV 15 [12,13] [0,1,2,3,4,5,6,7,8,9,10,11,14,15,12,13,16,17] H ?_);clear H;intro w H;refine H.wg ?_;clear H;intro w H;by_cases hbig:1000<(c).2.length
    ·refine wk ?_;exact⟨V6,⟨none,0,0⟩,(hV1.trans hV2).trans gJ,H.sx,.inl ⟨by rw[<-hcs];exact⟨c,fH (by assumption),hbig⟩,rfl⟩⟩
    obtain⟨V7,dQ,H,kN⟩:=H.bt;have y0:=kN.bE (i:=0) rfl;have y1:=kN.bE (i:=1) rfl;have iL:ay V7 (x.2) (c).2:=(by assumption:ay V6 (x.2) (c).2).up dQ;have jc:=AQ (cs:=cs) (i:=k.i) (c:=c) (by assumption);have mw:(jf++(cs.take k.i).flatMap dL).length<=1100000:=by
     rw[aq];simp only[av,aI];omega
    refine wk ?_;(first|refine cz (id:=3) ah mixed (Kv V7) Kv.trans [13,19,20] [1,3,5,6,8,9,11,12,16,18] [0,1,2,3,4,5,6,7,8,9,10,11,12,15,16,17,18,13,14,19,20,21,22] [(13,[]),(19,[]),(20,[19]),(21,[13,19,20])] aj ?_|refine cz (id:=11) ah mixed (Kv V7) Kv.trans [] [] [0,1,2,3,4,5,6,7] [(6,[])] aj ?_|refine cz (id:=12) ah mixed (Kv V7) Kv.trans [] [] [0,1,2,3,4,5,6] [(5,[])] aj ?_|refine cz (id:=15) ah mixed (Kv V7) Kv.trans [12,13] [15] [0,1,2,3,4,5,6,7,8,9,10,11,14,15,12,13,16,17] [(12,[]),(13,[12]),(16,[12,13])] aj ?_);intro w aR;replace H:=Rel.ext H aR.ext;repeat' (refine wk ?_;(first|refine Kv.go H ?_|refine Kv.go2 H (by assumption) ?_|(refine And.intro (λw1 hkp=>?_) ?_;focus ((first|have H:=Kv.in H hkp|have H:=Kv.gi H (by assumption) hkp);((repeat ((conv=>whnf);first|refine an ?_|refine H.ce ?_|refine H.db ?_|refine ea ?_|refine ol ?_|fail|refine cT ?_|refine cF ?_|refine cN ?_|refine cM ?_|refine H.da (hc2 _ _ aW) ?_|refine H.eU hc2 aW ?_|refine H.eT hc2 aW ?_|refine H.lw ?_|refine H.ll ?_));(conv=>whnf));all_goals (first|exact⟨rfl,rfl⟩|exact rfl)))|refine And.intro ?_ ?_|(refine H.nA ?_;clear H;intro w _ H)))
    refine wk ?_;replace H:=H.bA (AP (c.1) (x.2).len aa);rw[hdl]at H;have py:cs.take k.i=[]:=by rw[h0];rfl
    refine Rel.BH (s:=⟨some ⟨bm,0,none⟩,4,4⟩) (x:=⟨some ⟨_,0,none⟩,3,3⟩) (xs:=jf.flatMap aE) (ys:=[c.1,UInt8.ofNat ((c).2.length/256),UInt8.ofNat ((c).2.length%256)].flatMap aE) ah rfl rfl rfl rfl rfl ag H ((hm.up dQ).up H.data).cells rfl rfl H.ql.cells rfl (by show 0<3;decide) (by show(4+3)*1<=140737488355328;decide) (by show 4+3<=4611686018427387904;decide) ?_;clear H;intro r1 w sv H _;rw[<-bT]at H;repeat' (refine wk ?_;(first|refine Kv.go H ?_|refine Kv.go2 H (by assumption) ?_|(refine And.intro (λw1 hkp=>?_) ?_;focus ((first|have H:=Kv.in H hkp|have H:=Kv.gi H (by assumption) hkp);((repeat ((conv=>whnf);first|refine an ?_|refine H.ce ?_|refine H.db ?_|refine ea ?_|refine ol ?_|fail|refine cT ?_|refine cF ?_|refine cN ?_|refine cM ?_|refine H.da (hc2 _ _ aW) ?_|refine H.eU hc2 aW ?_|refine H.eT hc2 aW ?_|refine H.lw ?_|refine H.ll ?_));(conv=>whnf));all_goals (first|exact⟨rfl,rfl⟩|exact rfl)))|refine And.intro ?_ ?_|(refine H.nA ?_;clear H;intro w _ H)))
    refine wk ?_;refine Rel.eJ H (i:=0) rfl iL (by simp only[aq,av,aI];omega) ?_;clear H;intro r2 w H;simp only[bC]at H;replace H:=H.less ((hV1.trans hV2).trans gJ) dQ;refine wk ?_;rw[show jf=jf++(cs.take k.i).flatMap dL by rw[py];rfl,<-jc]at H;exact⟨sB,(⟨k.i+1,k.t8,k.ps,k.nr,⟨aU k.t6.a 1 k.t6.cap 2,k.t6.len-1,k.t6.cap-1⟩,xt,r⟩,r2),sB,⟨e6 aa,.inr ⟨by dsimp only;omega,H.sx⟩⟩,by dsimp only;omega⟩
   ·refine wk ?_;refine H.nA ?_;clear H;intro w ix H;refine wk ?_;(first|refine dV 11 [] [0,1,2,3,4,5,6,7] H ?_|refine dV 12 [] [0,1,2,3,4,5,6] H ?_|refine dV 15 [12,13] [0,1,2,3,4,5,6,7,8,9,10,11,14,15,12,13,16,17] H ?_);clear H;intro w H;refine H.wg ?_;clear H;intro w H;by_cases hbig:1000<(c).2.length
    ·refine wk ?_;exact⟨V6,⟨none,0,0⟩,(hV1.trans hV2).trans gJ,H.sx,.inl ⟨by rw[<-hcs];exact⟨c,fH (by assumption),hbig⟩,rfl⟩⟩
    obtain⟨V7,dQ,H,kN⟩:=H.bt;have y0:=kN.bE (i:=0) rfl;have y1:=kN.bE (i:=1) rfl;have iL:ay V7 (x.2) (c).2:=(by assumption:ay V6 (x.2) (c).2).up dQ;have jc:=AQ (cs:=cs) (i:=k.i) (c:=c) (by assumption);have mw:(jf++(cs.take k.i).flatMap dL).length<=1100000:=by
     rw[aq];simp only[av,aI];omega
    refine wk ?_;(first|refine cz (id:=3) ah mixed (Kv V7) Kv.trans [13,19,20] [1,3,5,6,8,9,11,12,16,18] [0,1,2,3,4,5,6,7,8,9,10,11,12,15,16,17,18,13,14,19,20,21,22] [(13,[]),(19,[]),(20,[19]),(21,[13,19,20])] aj ?_|refine cz (id:=11) ah mixed (Kv V7) Kv.trans [] [] [0,1,2,3,4,5,6,7] [(6,[])] aj ?_|refine cz (id:=12) ah mixed (Kv V7) Kv.trans [] [] [0,1,2,3,4,5,6] [(5,[])] aj ?_|refine cz (id:=15) ah mixed (Kv V7) Kv.trans [12,13] [15] [0,1,2,3,4,5,6,7,8,9,10,11,14,15,12,13,16,17] [(12,[]),(13,[12]),(16,[12,13])] aj ?_);intro w aR;replace H:=Rel.ext H aR.ext;repeat' (refine wk ?_;(first|refine Kv.go H ?_|refine Kv.go2 H (by assumption) ?_|(refine And.intro (λw1 hkp=>?_) ?_;focus ((first|have H:=Kv.in H hkp|have H:=Kv.gi H (by assumption) hkp);((repeat ((conv=>whnf);first|refine an ?_|refine H.ce ?_|refine H.db ?_|refine ea ?_|refine ol ?_|fail|refine cT ?_|refine cF ?_|refine cN ?_|refine cM ?_|refine H.da (hc2 _ _ aW) ?_|refine H.eU hc2 aW ?_|refine H.eT hc2 aW ?_|refine H.lw ?_|refine H.ll ?_));(conv=>whnf));all_goals (first|exact⟨rfl,rfl⟩|exact rfl)))|refine And.intro ?_ ?_|(refine H.nA ?_;clear H;intro w _ H)))
    refine wk ?_;replace H:=H.bA (AP (c.1) (x.2).len aa);rw[hdl]at H;replace H:=H.fA (n:=3) (e:=5) (sz:=1) rfl (by simp[maxLen]);refine Rel.dD H (i:=0) rfl (by simp only[av,aI];omega) ?_;clear H;intro r1 w H;repeat' (refine wk ?_;(first|refine Kv.go H ?_|refine Kv.go2 H (by assumption) ?_|(refine And.intro (λw1 hkp=>?_) ?_;focus ((first|have H:=Kv.in H hkp|have H:=Kv.gi H (by assumption) hkp);((repeat ((conv=>whnf);first|refine an ?_|refine H.ce ?_|refine H.db ?_|refine ea ?_|refine ol ?_|fail|refine cT ?_|refine cF ?_|refine cN ?_|refine cM ?_|refine H.da (hc2 _ _ aW) ?_|refine H.eU hc2 aW ?_|refine H.eT hc2 aW ?_|refine H.lw ?_|refine H.ll ?_));(conv=>whnf));all_goals (first|exact⟨rfl,rfl⟩|exact rfl)))|refine And.intro ?_ ?_|(refine H.nA ?_;clear H;intro w _ H)))
    refine wk ?_;refine Rel.eJ H (i:=0) rfl iL (by simp only[aq,av,aI]at mw |-;omega) ?_;clear H;intro r2 w H;simp only[bC]at H;replace H:=H.less ((hV1.trans hV2).trans gJ) dQ;refine wk ?_;rw[<-jc]at H;exact⟨sB,(⟨k.i+1,k.t8,k.ps,k.nr,⟨aU k.t6.a 1 k.t6.cap 2,k.t6.len-1,k.t6.cap-1⟩,xt,r⟩,r2),sB,⟨e6 aa,.inr ⟨by dsimp only;omega,H.sx⟩⟩,by dsimp only;omega⟩
  | cons m t =>
   have hne:=e4 m t hnr;rw[hnr]at n2;obtain⟨p,pt,g1,g2,g3⟩:=n2.cons_inv;rw[g1]at n1 Q2;simp only[av]at Q2;obtain⟨tO,s1,s2,s3⟩:=n1.mZ (g:=λp:fC=>bv p.1.2.1) (g':=λp:fC=>p.2.v) (g'':=λp:fC=>iv p.1.1) (λ_=>rfl) (i:=0) ai;simp only[pU]at s1 s2 s3;rw[g2.1]at s3;rcases hout with⟨h0,rfl,H⟩|⟨h0,H⟩
   ·refine wk ?_;refine H.nA ?_;clear H;intro w ix H;refine wk ?_;(first|refine dV 11 [] [0,1,2,3,4,5,6,7] H ?_|refine dV 12 [] [0,1,2,3,4,5,6] H ?_|refine dV 15 [12,13] [0,1,2,3,4,5,6,7,8,9,10,11,14,15,12,13,16,17] H ?_);clear H;intro w H;refine H.wg ?_;clear H;intro w H;by_cases hbig:1000<(c).2.length
    ·refine wk ?_;exact⟨V6,⟨none,0,0⟩,(hV1.trans hV2).trans gJ,H.sx,.inl ⟨by rw[<-hcs];exact⟨c,fH (by assumption),hbig⟩,rfl⟩⟩
    obtain⟨V7,dQ,H,kN⟩:=H.bt;have y0:=kN.bE (i:=0) rfl;have y1:=kN.bE (i:=1) rfl;have iL:ay V7 (x.2) (c).2:=(by assumption:ay V6 (x.2) (c).2).up dQ;have jc:=AQ (cs:=cs) (i:=k.i) (c:=c) (by assumption);have mw:(jf++(cs.take k.i).flatMap dL).length<=1100000:=by
     rw[aq];simp only[av,aI];omega
    refine wk ?_;(first|refine cz (id:=3) ah mixed (Kv V7) Kv.trans [13,19,20] [1,3,5,6,8,9,11,12,16,18] [0,1,2,3,4,5,6,7,8,9,10,11,12,15,16,17,18,13,14,19,20,21,22] [(13,[]),(19,[]),(20,[19]),(21,[13,19,20])] aj ?_|refine cz (id:=11) ah mixed (Kv V7) Kv.trans [] [] [0,1,2,3,4,5,6,7] [(6,[])] aj ?_|refine cz (id:=12) ah mixed (Kv V7) Kv.trans [] [] [0,1,2,3,4,5,6] [(5,[])] aj ?_|refine cz (id:=15) ah mixed (Kv V7) Kv.trans [12,13] [15] [0,1,2,3,4,5,6,7,8,9,10,11,14,15,12,13,16,17] [(12,[]),(13,[12]),(16,[12,13])] aj ?_);intro w aR;replace H:=Rel.ext H aR.ext;repeat' (refine wk ?_;(first|refine Kv.go H ?_|refine Kv.go2 H (by assumption) ?_|(refine And.intro (λw1 hkp=>?_) ?_;focus ((first|have H:=Kv.in H hkp|have H:=Kv.gi H (by assumption) hkp);((repeat ((conv=>whnf);first|refine an ?_|refine H.ce ?_|refine H.db ?_|refine ea ?_|refine ol ?_|fail|refine cT ?_|refine cF ?_|refine cN ?_|refine cM ?_|refine H.da (hc2 _ _ aW) ?_|refine H.eU hc2 aW ?_|refine H.eT hc2 aW ?_|refine H.lw ?_|refine H.ll ?_));(conv=>whnf));all_goals (first|exact⟨rfl,rfl⟩|exact rfl)))|refine And.intro ?_ ?_|(refine H.nA ?_;clear H;intro w _ H)))
    refine wk ?_;replace H:=H.bA (AP (c.1) (x.2).len aa);rw[hdl]at H;have py:cs.take k.i=[]:=by rw[h0];rfl
    refine Rel.BH (s:=⟨some ⟨bm,0,none⟩,4,4⟩) (x:=⟨some ⟨_,0,none⟩,3,3⟩) (xs:=jf.flatMap aE) (ys:=[c.1,UInt8.ofNat ((c).2.length/256),UInt8.ofNat ((c).2.length%256)].flatMap aE) ah rfl rfl rfl rfl rfl ag H ((hm.up dQ).up H.data).cells rfl rfl H.ql.cells rfl (by show 0<3;decide) (by show(4+3)*1<=140737488355328;decide) (by show 4+3<=4611686018427387904;decide) ?_;clear H;intro r1 w sv H _;rw[<-bT]at H;repeat' (refine wk ?_;(first|refine Kv.go H ?_|refine Kv.go2 H (by assumption) ?_|(refine And.intro (λw1 hkp=>?_) ?_;focus ((first|have H:=Kv.in H hkp|have H:=Kv.gi H (by assumption) hkp);((repeat ((conv=>whnf);first|refine an ?_|refine H.ce ?_|refine H.db ?_|refine ea ?_|refine ol ?_|fail|refine cT ?_|refine cF ?_|refine cN ?_|refine cM ?_|refine H.da (hc2 _ _ aW) ?_|refine H.eU hc2 aW ?_|refine H.eT hc2 aW ?_|refine H.lw ?_|refine H.ll ?_));(conv=>whnf));all_goals (first|exact⟨rfl,rfl⟩|exact rfl)))|refine And.intro ?_ ?_|(refine H.nA ?_;clear H;intro w _ H)))
    refine wk ?_;refine Rel.eJ H (i:=0) rfl iL (by simp only[aq,av,aI];omega) ?_;clear H;intro r2 w H;simp only[bC]at H;replace H:=H.less ((hV1.trans hV2).trans gJ) dQ;refine wk ?_;rw[show jf=jf++(cs.take k.i).flatMap dL by rw[py];rfl,<-jc]at H;exact⟨sB,(⟨k.i+1,k.t8,k.ps,k.nr,⟨aU k.t6.a 1 k.t6.cap 2,k.t6.len-1,k.t6.cap-1⟩,xt,r⟩,r2),sB,⟨e6 aa,.inr ⟨by dsimp only;omega,H.sx⟩⟩,by dsimp only;omega⟩
   ·refine wk ?_;refine H.nA ?_;clear H;intro w ix H;refine wk ?_;(first|refine dV 11 [] [0,1,2,3,4,5,6,7] H ?_|refine dV 12 [] [0,1,2,3,4,5,6] H ?_|refine dV 15 [12,13] [0,1,2,3,4,5,6,7,8,9,10,11,14,15,12,13,16,17] H ?_);clear H;intro w H;refine H.wg ?_;clear H;intro w H;by_cases hbig:1000<(c).2.length
    ·refine wk ?_;exact⟨V6,⟨none,0,0⟩,(hV1.trans hV2).trans gJ,H.sx,.inl ⟨by rw[<-hcs];exact⟨c,fH (by assumption),hbig⟩,rfl⟩⟩
    obtain⟨V7,dQ,H,kN⟩:=H.bt;have y0:=kN.bE (i:=0) rfl;have y1:=kN.bE (i:=1) rfl;have iL:ay V7 (x.2) (c).2:=(by assumption:ay V6 (x.2) (c).2).up dQ;have jc:=AQ (cs:=cs) (i:=k.i) (c:=c) (by assumption);have mw:(jf++(cs.take k.i).flatMap dL).length<=1100000:=by
     rw[aq];simp only[av,aI];omega
    refine wk ?_;(first|refine cz (id:=3) ah mixed (Kv V7) Kv.trans [13,19,20] [1,3,5,6,8,9,11,12,16,18] [0,1,2,3,4,5,6,7,8,9,10,11,12,15,16,17,18,13,14,19,20,21,22] [(13,[]),(19,[]),(20,[19]),(21,[13,19,20])] aj ?_|refine cz (id:=11) ah mixed (Kv V7) Kv.trans [] [] [0,1,2,3,4,5,6,7] [(6,[])] aj ?_|refine cz (id:=12) ah mixed (Kv V7) Kv.trans [] [] [0,1,2,3,4,5,6] [(5,[])] aj ?_|refine cz (id:=15) ah mixed (Kv V7) Kv.trans [12,13] [15] [0,1,2,3,4,5,6,7,8,9,10,11,14,15,12,13,16,17] [(12,[]),(13,[12]),(16,[12,13])] aj ?_);intro w aR;replace H:=Rel.ext H aR.ext;repeat' (refine wk ?_;(first|refine Kv.go H ?_|refine Kv.go2 H (by assumption) ?_|(refine And.intro (λw1 hkp=>?_) ?_;focus ((first|have H:=Kv.in H hkp|have H:=Kv.gi H (by assumption) hkp);((repeat ((conv=>whnf);first|refine an ?_|refine H.ce ?_|refine H.db ?_|refine ea ?_|refine ol ?_|fail|refine cT ?_|refine cF ?_|refine cN ?_|refine cM ?_|refine H.da (hc2 _ _ aW) ?_|refine H.eU hc2 aW ?_|refine H.eT hc2 aW ?_|refine H.lw ?_|refine H.ll ?_));(conv=>whnf));all_goals (first|exact⟨rfl,rfl⟩|exact rfl)))|refine And.intro ?_ ?_|(refine H.nA ?_;clear H;intro w _ H)))
    refine wk ?_;replace H:=H.bA (AP (c.1) (x.2).len aa);rw[hdl]at H;replace H:=H.fA (n:=3) (e:=5) (sz:=1) rfl (by simp[maxLen]);refine Rel.dD H (i:=0) rfl (by simp only[av,aI];omega) ?_;clear H;intro r1 w H;repeat' (refine wk ?_;(first|refine Kv.go H ?_|refine Kv.go2 H (by assumption) ?_|(refine And.intro (λw1 hkp=>?_) ?_;focus ((first|have H:=Kv.in H hkp|have H:=Kv.gi H (by assumption) hkp);((repeat ((conv=>whnf);first|refine an ?_|refine H.ce ?_|refine H.db ?_|refine ea ?_|refine ol ?_|fail|refine cT ?_|refine cF ?_|refine cN ?_|refine cM ?_|refine H.da (hc2 _ _ aW) ?_|refine H.eU hc2 aW ?_|refine H.eT hc2 aW ?_|refine H.lw ?_|refine H.ll ?_));(conv=>whnf));all_goals (first|exact⟨rfl,rfl⟩|exact rfl)))|refine And.intro ?_ ?_|(refine H.nA ?_;clear H;intro w _ H)))
    refine wk ?_;refine Rel.eJ H (i:=0) rfl iL (by simp only[aq,av,aI]at mw |-;omega) ?_;clear H;intro r2 w H;simp only[bC]at H;replace H:=H.less ((hV1.trans hV2).trans gJ) dQ;refine wk ?_;rw[<-jc]at H;exact⟨sB,(⟨k.i+1,k.t8,k.ps,k.nr,⟨aU k.t6.a 1 k.t6.cap 2,k.t6.len-1,k.t6.cap-1⟩,xt,r⟩,r2),sB,⟨e6 aa,.inr ⟨by dsimp only;omega,H.sx⟩⟩,by dsimp only;omega⟩
end
abbrev agb:ad:=[99,111,100,105,110,103]
abbrev agc:ad:=[111,116,104,101,114,32,99,104,117,110,107,115]
def Dc(c:Nat)(ns:List cB):List oT:=(if c≠1 then[(agb,(c:Int))]else[])++(if ns≠[]then[(agc,(ns.length:Int))]else[])
def UJ(b:ad):Option (List oT):=match lk b with
 | none=>none
 | some (c,ns)=>some (Dc c ns)
theorem XO{l:List Int}(h:wQ (eQ (ns.length+2) 0 ns (j6 rate ch coding l))):1000<(lp rate ch coding l ns).length:=by
 obtain⟨c,hc,h2⟩:=h;have:=PH hc;unfold lp;simp only[aq];omega
theorem agF(l:List Int)(coding ch:Nat):(lj l coding ch).length=l.length*(coding%2+1):=by
 unfold lj;refine ZR _ _ _ λi hi=>?_;rcases Nat.mod_two_eq_zero_or_one coding with h|h
 ·rw[h,show aV coding=false by simp[aV,h]];rfl
 ·rw[h,show aV coding=true by simp[aV,h]];rfl
theorem aiH(h:s.length%(2*ch)=0):(lj (e9 s 1 ch) coding ch).length%((coding%2+1)*ch)=0:=by
 rw[agF,Mu,bu,sO,if_pos rfl];obtain⟨k,hk⟩:=Nat.dvd_of_mod_eq_zero h;rw[hk,AX,Nat.mul_div_cancel_left _ (by omega:0<2),show ch*k*(coding%2+1)=(coding%2+1)*ch*k by rw[mM (ch*k),<-AX]];exact Nat.mul_mod_right ..
theorem aiM{wv:ar}(h1:rate<=65535)(h2:1<=ch/\ch<=2)(h3:coding<4)(h4:gj ns.length (-1) ns=true)(h5:¬wQ (eQ (ns.length+2) 0 ns (j6 rate ch coding (e9 s 1 ch))))
  (h6:s.length%(2*ch)=0) (h:fU (lp rate ch coding (e9 s 1 ch) ns)=some (wv,r)):∃p,wv=p6 rate ch p:=by
 obtain⟨x,hx,_,hv,_⟩:=G4 h;rw[agS h1 h2 h3 h4 (λc hc=>by
  have:¬1000<c.2.length:=λhl=>h5 ⟨c,hc,hl⟩;omega) (aiH h6)]at hx
 cases hx;exact⟨_,hv⟩
section
variable{V W:ae}
theorem aaa(hV:Sub V W){h:VH}{v:ar}(hv:bV V h v)(hB:VB 1048576 v){s:Sl}{b:ad}(hs:ay V s b)(hl:b.length<=1099511627776):aC 62 [fb h,s.v] W (mT W V (ct v (lX v).isSome (nM v b))):=by
 have H:=Rel.start hV;have hv0:=hv;have hpl:=hv.kt;obtain⟨k,n,bs,ss,pl⟩:=h;dsimp only at hpl;change aC 62 [.agg [iv k,iv n,bs.v,ss.v,pl.v].toArray,s.v] W _;refine eV Tryz.func62 90 [0,1,2,4,5,6,7,8,9,10,11,12,13,14,15,16,17,22,32,42,56,86] ?_;refine wk ?_;refine H.nA ?_;clear H;intro w b2 H;refine wk ?_;refine H.nA ?_;clear H;intro w b5 H;refine wk ?_;refine(qe H.data hv0 hB).use ?_;rintro q w⟨rfl,K⟩;(replace H:=H.az K);refine wk ?_;refine H.nA ?_;clear H;intro w b6 H;by_cases bP:(bI v).1=0;rotate_left
 ·have e:ct v (lX v).isSome (nM v b)=([],bI v):=by unfold ct;rw[if_pos bP]
  rw[e];refine H.wg ?_;clear H;intro w H;(first|refine dV 3 [] [0,1,2] H ?_|refine dV 10 [] [0,1,2] H ?_|refine dV 13 [] [0,1,2] H ?_|refine dV 15 [] [0,1,2,3,4,5,6,7,8,9,10,11,12,13,14,15,16,17,18,19,20,21,22] H ?_|refine dV 16 [] [0,1,2] H ?_);clear H;intro w H;refine H.wg ?_;clear H;intro w H;exact⟨V,⟨none,0,0⟩,Sub.refl _,H.sx,rfl,aB.nil _ _⟩
 have qL:=oQ bP;rw[qL];refine H.wg ?_;clear H;intro w H;refine(adS H.data hv0 hB bP).use ?_;rintro q w⟨V2,rs,hV2,K,hres⟩;(replace H:=H.az K);cases hsh:lX v with
 | none =>
  rw[hsh]at hres;dsimp only at hres;subst hres;have e:ct v (none:Option (Nat×Nat×ad)).isSome (nM v b)=([],13,0):=by unfold ct;rw[if_neg (λh=>h bP)];rfl
  rw[e];refine wk ?_;refine(zR H.data 13 0).use ?_;rintro q w⟨rfl,K⟩;(replace H:=H.az K);refine H.wg ?_;clear H;intro w H;exact⟨V2,⟨none,0,0⟩,hV2,H.sx,rfl,aB.nil _ _⟩
 | some x =>
  obtain⟨rate,ch,sb⟩:=x;rw[hsh]at hres;obtain⟨rfl,hsm⟩:=hres;obtain⟨sr,hra,hch,hsd⟩:=agM bP hsh;have ajl:sb.length<=1048576:=by
   have:=(hB.part (BO sb) (by rw[sr];simp)).bytes;exact this
  have abt:(e9 sb 1 ch).length<=1000000:=by
   rw[Mu,bu,sO,if_pos rfl];omega
  have eS:nM v b=none->ct v (some (rate,ch,sb)).isSome (nM v b)=([],6, -2):=λh=>by
   rw[h];unfold ct;rw[if_neg (λh=>h bP)];rfl
  refine wk ?_;refine(zR H.data 6 (-2)).use ?_;rintro q w⟨rfl,K⟩;(replace H:=H.az K);refine wk ?_;refine H.nA ?_;clear H;intro w tg H;refine H.wg ?_;clear H;intro w H;refine(afd H.data (hs.up hV2) hl).use ?_;rintro q w⟨V3,rn,aw,K,hres⟩;(replace H:=H.az K);cases hr:lk b with
  | none =>
   rw[hr]at hres;dsimp only at hres;subst hres;have e:=eS (by unfold nM;rw[hsh,hr]);rw[e];refine wk ?_;(first|refine dV 3 [] [0,1,2] H ?_|refine dV 10 [] [0,1,2] H ?_|refine dV 13 [] [0,1,2] H ?_|refine dV 15 [] [0,1,2,3,4,5,6,7,8,9,10,11,12,13,14,15,16,17,18,19,20,21,22] H ?_|refine dV 16 [] [0,1,2] H ?_);clear H;intro w H;refine H.wg ?_;clear H;intro w H;exact⟨V3,⟨none,0,0⟩,hV2.trans aw,H.sx,rfl,aB.nil _ _⟩
  | some x =>
   obtain⟨c,ns⟩:=x;rw[hr]at hres;obtain⟨rfl,hns⟩:=hres;obtain⟨c4,ac4,hno,_,_⟩:=agK hr;have bW:nM v b=if(lp rate ch c (e9 sb 1 ch) ns).length<=1000/\fU (lp rate ch c (e9 sb 1 ch) ns)=some (v,b)then some (lp rate ch c (e9 sb 1 ch) ns)else none:=by
    unfold nM;rw[hsh,hr]
   refine wk ?_;refine(aiK H.data hra c4 hch (hsm.up aw) abt Mv hns ac4 hno).use ?_;rintro q w⟨V4,ro,aG,K,hw⟩;(replace H:=H.az K);rcases hw with⟨hbig,rfl⟩|⟨hbig,rfl,ho⟩
   ·have e:=eS (by rw[bW,if_neg];intro h;have:=XO hbig;omega);rw[e];refine wk ?_;(first|refine dV 3 [] [0,1,2] H ?_|refine dV 10 [] [0,1,2] H ?_|refine dV 13 [] [0,1,2] H ?_|refine dV 15 [] [0,1,2,3,4,5,6,7,8,9,10,11,12,13,14,15,16,17,18,19,20,21,22] H ?_|refine dV 16 [] [0,1,2] H ?_);clear H;intro w H;refine H.wg ?_;clear H;intro w H;exact⟨V4,⟨none,0,0⟩,(hV2.trans aw).trans aG,H.sx,rfl,aB.nil _ _⟩
   obtain⟨O,hO⟩:∃O,O=lp rate ch c (e9 sb 1 ch) ns:=⟨_,rfl⟩
   rw[<-hO]at ho bW;have rY:O.length<=1099511627776:=by
    have hlen:(eQ (ns.length+2) 0 ns (j6 rate ch c (e9 sb 1 ch))).length=ns.length+2:=Hu ..;have:=PL (l:=eQ (ns.length+2) 0 ns (j6 rate ch c (e9 sb 1 ch))) λx hx=>qU λh=>hbig ⟨x,hx,aa⟩;have h2:=iD 1003 (show ns.length+2<=1002 by omega);rw[hO];unfold lp;simp only[aq,av,aI];rw[hlen]at this;omega
   refine wk ?_;refine(Vf H.data ho rY).use ?_;rintro q w⟨V5,hh,rr,aQ,K,rfl,fF,fw⟩;(replace H:=H.az K);have cU:=((hV2.trans aw).trans aG).trans aQ;by_cases iz:1000<O.length
   ·have et:br (fU O) O.length=⟨zeroV,[],3, -1⟩:=by unfold br;rw[if_pos iz]
    rw[et];have e:=eS (by rw[bW,if_neg];intro h;omega);rw[e];refine wk ?_;refine H.nA ?_;clear H;intro w th H;refine wk ?_;refine H.nA ?_;clear H;intro w wM H;refine H.wg ?_;clear H;intro _ w H;(first|refine dV 3 [] [0,1,2] H ?_|refine dV 10 [] [0,1,2] H ?_|refine dV 13 [] [0,1,2] H ?_|refine dV 15 [] [0,1,2,3,4,5,6,7,8,9,10,11,12,13,14,15,16,17,18,19,20,21,22] H ?_|refine dV 16 [] [0,1,2] H ?_);clear H;intro w H;refine wk ?_;(first|refine dV 3 [] [0,1,2] H ?_|refine dV 10 [] [0,1,2] H ?_|refine dV 13 [] [0,1,2] H ?_|refine dV 15 [] [0,1,2,3,4,5,6,7,8,9,10,11,12,13,14,15,16,17,18,19,20,21,22] H ?_|refine dV 16 [] [0,1,2] H ?_);clear H;intro w H;refine H.wg ?_;clear H;intro w H;exact⟨V5,⟨none,0,0⟩,cU,H.sx,rfl,aB.nil _ _⟩
   cases hto:fU O with
   | none =>
    rw[hto]at fF fw;have et:br none O.length=⟨zeroV,[],21, -1⟩:=by unfold br;rw[if_neg iz]
    rw[et];have e:=eS (by rw[bW,if_neg];intro h;rw[hto]at h;cases h.2);rw[e];refine wk ?_;refine H.nA ?_;clear H;intro w th H;refine wk ?_;refine H.nA ?_;clear H;intro w wM H;refine H.wg ?_;clear H;intro _ w H;(first|refine dV 3 [] [0,1,2] H ?_|refine dV 10 [] [0,1,2] H ?_|refine dV 13 [] [0,1,2] H ?_|refine dV 15 [] [0,1,2,3,4,5,6,7,8,9,10,11,12,13,14,15,16,17,18,19,20,21,22] H ?_|refine dV 16 [] [0,1,2] H ?_);clear H;intro w H;refine wk ?_;(first|refine dV 3 [] [0,1,2] H ?_|refine dV 10 [] [0,1,2] H ?_|refine dV 13 [] [0,1,2] H ?_|refine dV 15 [] [0,1,2,3,4,5,6,7,8,9,10,11,12,13,14,15,16,17,18,19,20,21,22] H ?_|refine dV 16 [] [0,1,2] H ?_);clear H;intro w H;refine H.wg ?_;clear H;intro w H;exact⟨V5,⟨none,0,0⟩,cU,H.sx,rfl,aB.nil _ _⟩
   | some y =>
    obtain⟨wv,wr⟩:=y;have et:br (some (wv,wr)) O.length=⟨wv,wr,0,0⟩:=by unfold br;rw[if_neg iz]
    rw[hto,et]at fF fw;rw[et];dsimp only at fF fw |-;obtain⟨pb,Am⟩:=aiM hra hch c4 hno hbig hsd (by rw[<-hO];exact hto);have hcond:(O.length<=1000/\fU O=some (v,b))↔(wr=b/\pb=sb):=by
     rw[hto,Am,sr];constructor
     ·rintro⟨_,h⟩;simp only[Option.some.injEq,Prod.mk.injEq,ar.mk.injEq,List.cons.injEq,and_true,true_and]at h;exact⟨h.2,h.1⟩
     ·rintro⟨rfl,rfl⟩;exact⟨aa,rfl⟩
    obtain⟨qH,x2,jB,d0,d1,d2,d3,d4⟩:=fF.jE (i:=2) (by rw[Am];show 2<3;decide);obtain⟨jy,y2,tW,f0,f1,f2,f3,f4⟩:=(hv0.up cU).jE (i:=2) (by rw[sr];show 2<3;decide);have lJ:=jB.bytes;have As:=tW.bytes;have g1:(wv.parts[2]'(by rw[Am];show 2<3;decide)).bytes=pb:=by simp[Am]
    have g2:(v.parts[2]'(by rw[sr];show 2<3;decide)).bytes=sb:=by simp[sr]
    rw[g1]at lJ;rw[g2]at As;have Aj:=fF.kt;have hwl:wv.parts.length=3:=by rw[Am];rfl
    have CY:v.parts.length=3:=by rw[sr];rfl
    obtain⟨hk,hn,fN,om,pB⟩:=hh;dsimp only at qH d0 d1 d2 d3 d4 jy f0 f1 f2 f3 f4 Aj;refine wk ?_;refine H.nA ?_;clear H;intro w th H;refine wk ?_;refine H.nA ?_;clear H;intro w wM H;refine H.wg ?_;clear H;intro _ w H;(first|refine dV 3 [] [0,1,2] H ?_|refine dV 10 [] [0,1,2] H ?_|refine dV 13 [] [0,1,2] H ?_|refine dV 15 [] [0,1,2,3,4,5,6,7,8,9,10,11,12,13,14,15,16,17,18,19,20,21,22] H ?_|refine dV 16 [] [0,1,2] H ?_);clear H;intro w H;refine wk ?_;refine(qv H.data fw (hs.up cU)).use ?_;rintro q w⟨rfl,K⟩;(replace H:=Rel.call H K);simp only[aA]at H;by_cases hc1:wr=b;rotate_left
    ·rw[decide_eq_false hc1];have e:=eS (by rw[bW,if_neg];intro h;exact hc1 (hcond.1 h).1);rw[e];refine wk ?_;(first|refine dV 3 [] [0,1,2] H ?_|refine dV 10 [] [0,1,2] H ?_|refine dV 13 [] [0,1,2] H ?_|refine dV 15 [] [0,1,2,3,4,5,6,7,8,9,10,11,12,13,14,15,16,17,18,19,20,21,22] H ?_|refine dV 16 [] [0,1,2] H ?_);clear H;intro w H;refine H.wg ?_;clear H;intro w H;exact⟨V5,⟨none,0,0⟩,cU,H.sx,rfl,aB.nil _ _⟩
    rw[decide_eq_true hc1];refine wk ?_;refine(qv H.data lJ As).use ?_;rintro q w⟨rfl,K⟩;(replace H:=H.az K);by_cases hc2:pb=sb;rotate_left
    ·rw[decide_eq_false hc2];have e:=eS (by rw[bW,if_neg];intro h;exact hc2 (hcond.1 h).2);rw[e];refine wk ?_;(first|refine dV 3 [] [0,1,2] H ?_|refine dV 10 [] [0,1,2] H ?_|refine dV 13 [] [0,1,2] H ?_|refine dV 15 [] [0,1,2,3,4,5,6,7,8,9,10,11,12,13,14,15,16,17,18,19,20,21,22] H ?_|refine dV 16 [] [0,1,2] H ?_);clear H;intro w H;refine H.wg ?_;clear H;intro w H;exact⟨V5,⟨none,0,0⟩,cU,H.sx,rfl,aB.nil _ _⟩
    rw[decide_eq_true hc2];have e:ct v (some (rate,ch,sb)).isSome (nM v b)=(O,0,0):=by
     rw[bW,if_pos (hcond.2 ⟨hc1,hc2⟩)];unfold ct;rw[if_neg (λh=>h bP)];rfl
    rw[e];refine H.wg ?_;clear H;intro w H;exact⟨V5,ro,cU,H.sx,rfl,ho.up aQ⟩
end
theorem aeh(n:Int):aM n≠[]:=λh=>by
 have:=pM (zz n);unfold aM at h;rw[h]at this;simp at this
theorem agL :ln c ns=[]↔c=1/\ns=[]:=by
 unfold ln;split
 ·rename_i h;exact⟨λ_=>h,λ_=>rfl⟩
 ·rename_i h;exact⟨λh2=>absurd (A1.1 h2).1 (aeh _),λh2=>absurd h2 h⟩
theorem acp :Dc c ns=[]↔c=1/\ns=[]:=by
 unfold Dc;constructor
 ·intro h;obtain⟨h1,h2⟩:=A1.1 h;refine⟨qU λhc=>?_,qU λhn=>?_⟩
  ·rw[if_pos hc]at h1;cases h1
  ·rw[if_pos hn]at h2;cases h2
 ·rintro⟨rfl,rfl⟩;rfl
theorem UM(hl:b.length<=1000)(h:fU b=some (v,r)):VB 1048576 v/\(bI v).1=0/\(lX v).isSome=true/\nM v r=some b/\r.length<=100000000/\∃ls,UJ r=some ls/\ls.length<=2/\(ls=[]↔r=[]):=by
 have bW:=agT hl h;obtain⟨x,hx,hv0,hv,hr⟩:=G4 h;obtain⟨x',C2,bF,_⟩:=UK hl h;rw[hx]at C2;cases C2;obtain⟨m1,m2,m3,m4,m5,m6,m7⟩:=UL aa hx;refine⟨?_,hv0,?_,bW,?_,Dc x.coding x.notes,?_,?_,?_⟩
 ·rw[hv];exact Wd (by constructor<;>omega) (by constructor<;>omega) (by rw[G3];omega)
 ·cases hs:lX v with
  | none=>unfold nM at bW;rw[hs]at bW;cases bW
  | some y=>rfl
 ·rw[hr];unfold ln;split
  ·simp
  ·have a1:=fj (n:=(x.coding:Int)) aa aa;have a2:=vI (f:=ep) (m:=65600) (l:=x.notes) aa λy hy=>by
    obtain⟨⟨q1,q2⟩,q3⟩:=m7 y hy;have h1:=fj q1 q2;have h2:=yz (b:=y.2.2) aa;simp only[ep,aq,av];omega
   have a3:=iD 65600 (show x.notes.length<=1000 by omega);rw[aq];omega
 ·rw[UJ,bF]
 ·unfold Dc;split<;>split<;>simp
 ·rw[hr,acp,agL]
theorem Bk(h:(bI v).1=0):fG v=0/\∀p∈v.parts,fG p=0:=by
 unfold bI at h;split at h
 ·rename_i e he;exact absurd h (DQ he)
 ·rename_i m he;have key:∀ {d n m:Nat} {v:ar},fe d v n=.ok m->fG v=0:=by
   intro d n m v h;rw[BR]at h;split at h
   ·cases h
   ·rename_i h0;have h0:=qV.1 h0;unfold kH at h0;split at h0
    ·cases h0
    ·exact h0
  refine⟨key he,λp hp=>?_⟩;obtain⟨_,_,_,_,_,_,_,h8⟩:=tn he;obtain⟨a,b,h9⟩:=rO h8 p hp;exact key h9
theorem VW(h:(bI v).1=0)(h4:v.kind=4):v.names.length=v.parts.length/\v.num=0/\v.bytes=[]:=by
 obtain⟨_,hf,_⟩:=nB (Bk h).1;unfold ig at hf;refine⟨aa,aa,bL aa⟩
theorem VV(hx:fG x=0)(h1:x.kind=1):x=.mk 1 x.num [] [] []:=by
 obtain⟨_,hf,_⟩:=nB hx;unfold ig at hf;exact ar.ext h1 rfl (bL aa) (bL aa) (bL aa)
theorem VT(hx:fG x=0)(h1:x.kind=2):x=.mk 2 0 x.bytes [] []:=by
 obtain⟨_,hf,_⟩:=nB hx;unfold ig at hf;exact ar.ext h1 (by show x.num=0;omega) rfl (bL aa) (bL aa)
def allM{α β:Type}(g:α->Option β):List α->Option (List β)
 | []=>some []
 | x::l=>match g x,allM g l with
  | some y,some ys=>some (y::ys)
  | _,_=>none
theorem o0{α β:Type}{g:α->Option β}:∀ {l:List α} {ys:List β},allM g l=some ys->ys.length=l.length/\∀(i:Nat) (x:α) (y:β),l[i]?=some x->ys[i]?=some y->g x=some y
 | [],ys,h=>by cases h;exact⟨rfl,λi x y h=>by simp at h⟩
 | a::l,ys,h=>by
  unfold allM at h;split at h
  ·rename_i y ys' h1 h2;cases h;obtain⟨k1,k2⟩:=o0 h2;refine⟨by simp[k1],λi x z hx hz=>?_⟩;cases i with
   | zero=>simp at hx hz;subst hx hz;exact h1
   | succ i=>simp at hx hz;exact k2 i x z hx hz
  ·cases h
theorem zx{α β:Type}{g:α->Option β}:∀ {l:List α} {ys:List β},ys.length=l.length->(∀(i:Nat) (x:α) (y:β),l[i]?=some x->ys[i]?=some y->g x=some y)->allM g l=some ys
 | [],[],_,_=>rfl
 | [],_::_,h,_=>by simp at h
 | _::_,[],h,_=>by simp at h
 | a::l,y::ys,hl,h=>by
  have h0:=h 0 a y rfl rfl;have hr:=zx (l:=l) (ys:=ys) (by simpa using hl) λi x z hx hz=>h (i+1) x z (by simpa using hx) (by simpa using hz);unfold allM;rw[h0,hr]
theorem zw{α β:Type}{g:α->Option β}:∀ {l:List α} {x:α},x∈l->g x=none->allM g l=none
 | a::l,x,hx,h=>by
  unfold allM;rcases bB.1 hx with rfl|hx
  ·rw[h]
  ·rw[zw hx h];cases g a<;>rfl
theorem Nx{g:α->Option β}{l:List α}{ys:List β}{x:α}{y:β}(h:allM g l=some ys)(hx:g x=some y):allM g (l++[x])=some (ys++[y]):=by
 obtain⟨h1,h2⟩:=o0 h;refine zx (by simp[h1]) λi a b ha hb=>?_;rcases Nat.lt_trichotomy i l.length with hi|hi|hi
 ·rw[vL hi]at ha;rw[vL aa]at hb;exact h2 i a b ha hb
 ·subst hi;rw[DA (aK _)]at ha;rw[DA aa,h1]at hb;simp at ha hb;rw[<-ha,<-hb,hx]
 ·rw[jk (by simp;omega)]at ha;cases ha
def cX{α:Type}(s h:Nat)(l:List α):List (List α):=(List.range h).map λy=>(l.drop (y*s)).take s
theorem lV(s h:Nat)(l:List α):(cX s h l).length=h:=by simp[cX]
theorem Mi{s:Nat}{l:List α}{y:Nat}(hy:y<h):(cX s h l)[y]?=some ((l.drop (y*s)).take s):=by
 simp[cX,eu,pP hy]
theorem yL{s:Nat}{l:List α}(hl:l.length=h*s){r:List α}(hr:r∈cX s h l):r.length=s:=by
 obtain⟨y,hy,rfl⟩:=List.mem_map.1 hr;have hy:=sN.1 hy;have:(y+1)*s<=h*s:=iD s hy;rw[uc]at this;rw[bb,bd];omega
theorem GN{α:Type}{s:Nat}:∀ {h:Nat} {l:List α},l.length=h*s->(cX s h l).flatten=l
 | 0,l,hl=>by rw[bL (l:=l) aa];rfl
 | h+1,l,hl=>by
  have e:cX s (h+1) l=l.take s::cX s h (l.drop s):=by
   unfold cX;rw[DB,fq,kz];congr 1
   ·simp
   ·refine kY λy _=>?_;simp only[Function.comp,oC];congr 2;rw[mL];omega
  rw[e,ji,GN (by rw[bd,hl,uc];omega),eN]
theorem zX{α:Type}{s:Nat}:∀ {R:List (List α)},(∀r∈R,r.length=s)->R.flatten.length=R.length*s/\cX s R.length R.flatten=R
 | [],_=>⟨ai,rfl⟩
 | r::R,h=>by
  obtain⟨k1,k2⟩:=zX (R:=R) λx hx=>h x (by simp[hx]);have h0:=h r ai;refine⟨by rw[ji,aq,k1,h0,av,uc];omega,?_⟩;unfold cX at k2 |-;rw[av,DB,fq,kz];congr 1
  ·rw[Nat.zero_mul,kZ,ji,<-h0,pX]
  ·conv=>rhs;rw[<-k2]
   refine kY λy _=>?_;simp only[Function.comp];rw[mL,ji,Nat.add_comm,<-oC,<-h0,k7]
theorem ZV{R:List (List α)}:R.reverse.flatten.length=R.flatten.length:=by
 simp[List.length_flatten,List.sum_reverse]
theorem Nb(h:(bI v).1=0):v.parts.length<=600:=(nB (Bk h).1).2.2.1
theorem HP{g:α->Option β}{l:List α}{R:List β}{y:β}(hk:k<l.length)(h:allM g (l.take k)=some R)(hy:g l[k]=some y):allM g (l.take (k+1))=some (R++[y]):=by
 rw[bZ hk];exact Nx h hy
def jq(x:UInt8):Nat->ad->Nat
 | 0,_=>0
 | _+1,[]=>0
 | m+1,y::l=>if y=x then jq x m l+1 else 0
def fy(l:ad):Nat:=jq (l.headD 0) 129 l
theorem Ui(x:UInt8):∀(m:Nat) (l:ad),jq x m l<=m/\jq x m l<=l.length
 | 0,_=>⟨aK _,cu _⟩
 | _+1,[]=>⟨cu _,cu _⟩
 | m+1,y::l=>by
  have:=Ui x m l;unfold jq;split
  ·simp only[av];omega
  ·omega
theorem Uj(x:UInt8):∀(m:Nat) (l:ad),l.take (jq x m l)=List.replicate (jq x m l) x
 | 0,_=>by simp[jq]
 | _+1,[]=>by simp[jq]
 | m+1,y::l=>by
  have:=Uj x m l;unfold jq;split
  ·rename_i h;rw[List.take_succ_cons,List.replicate_succ,this,h]
  ·simp
theorem afT(x:UInt8)(m:Nat){l:ad}{k:Nat}(h:l.length<=k):jq x m (l.drop k)=0:=by
 rw[Gg h];cases m<;>rfl
theorem afW(x:UInt8)(m:Nat){l:ad}{k:Nat}(h:k<l.length):jq x (m+1) (l.drop k)=if l[k]=x then jq x m (l.drop (k+1))+1 else 0:=by
 rw[j4 h];rfl
theorem afX(h:l≠[]):1<=fy l:=by
 cases l with
 | nil=>exact absurd rfl h
 | cons y l =>
  show 1<=jq y (128+1) (y::l);unfold jq;rw[if_pos rfl];omega
theorem Mj(l:ad):fy l<=129/\fy l<=l.length:=Ui ..
def sA:Nat->ad->Nat
 | 0,_=>0
 | _+1,[]=>0
 | m+1,y::l=>if 3<=fy (y::l)then 0 else sA m l+1
theorem RV:∀(m:Nat) (l:ad),sA m l<=m/\sA m l<=l.length
 | 0,_=>⟨aK _,cu _⟩
 | _+1,[]=>⟨cu _,cu _⟩
 | m+1,y::l=>by
  have:=RV m l;unfold sA;split
  ·omega
  ·simp only[av];omega
theorem ace(m:Nat){l:ad}{k:Nat}(h:l.length<=k):sA m (l.drop k)=0:=by
 rw[Gg h];cases m<;>rfl
theorem acf(m:Nat){l:ad}{k:Nat}(h:k<l.length):sA (m+1) (l.drop k)=if 3<=fy (l.drop k)then 0 else sA m (l.drop (k+1))+1:=by
 rw[j4 h];rfl
def jD(l:ad):Nat:=1+sA 127 (l.drop 1)
theorem FM(h:l≠[]):1<=jD l/\jD l<=128/\jD l<=l.length:=by
 have:=RV 127 (l.drop 1);have h1:0<l.length:=jF.2 h;rw[bd]at this;unfold jD;omega
def ik(l:ad):ad :=
 if h:l=[]then[]else
 if h3:3<=fy l then UInt8.ofNat (126+fy l)::l.headD 0::ik (l.drop (fy l))
 else UInt8.ofNat (jD l-1)::(l.take (jD l)++ik (l.drop (jD l)))
termination_by l.length
decreasing_by
 ·have h1:0<l.length:=jF.2 h
  rw[bd];omega
 ·have h1:0<l.length:=jF.2 h
  have:=FM h
  rw[bd];omega
theorem K2:ik []=[]:=by rw[ik,dif_pos rfl]
theorem K3(h:3<=fy l):ik l=UInt8.ofNat (126+fy l)::l.headD 0::ik (l.drop (fy l)):=by
 have hl:l≠[]:=λe=>by rw[e]at h;exact absurd h ag
 conv=>lhs;rw[ik]
 rw[dif_neg hl,dif_pos h]
theorem Du(hl:l≠[])(h:fy l<3):ik l=UInt8.ofNat (jD l-1)::(l.take (jD l)++ik (l.drop (jD l))):=by
 conv=>lhs;rw[ik]
 rw[dif_neg hl,dif_neg aa]
def kK(l:ad):fx:=match l with
 | []=>some []
 | c::r =>
  if 129<=c.toNat/\0<r.length then(kK (r.drop 1)).map (List.replicate (c.toNat-126) (r.headD 0)++·)
  else if c.toNat<128/\c.toNat<r.length then(kK (r.drop (c.toNat+1))).map (r.take (c.toNat+1)++·)else none
termination_by l.length
decreasing_by
 ·rw[bd,av];omega
 ·rw[bd,av];omega
theorem OW:kK []=some []:=by rw[kK]
theorem ID(c:UInt8)(r:ad):kK (c::r)=if 129<=c.toNat/\0<r.length then(kK (r.drop 1)).map (List.replicate (c.toNat-126) (r.headD 0)++·)
  else if c.toNat<128/\c.toNat<r.length then(kK (r.drop (c.toNat+1))).map (r.take (c.toNat+1)++·)else none:=by
 conv=>lhs;rw[kK]
theorem IE:∀(n:Nat) (l:ad),l.length<n->kK (ik l)=some l
 | 0,_,h=>absurd h (Nat.not_lt_zero _)
 | n+1,l,hn=>by
  by_cases hl:l=[]
  ·rw[hl,K2,OW]
  have h1:0<l.length:=jF.2 hl;by_cases h3:3<=fy l
  ·have hr:=Mj l;have hc:(UInt8.ofNat (126+fy l)).toNat=126+fy l:=by rw[jl];omega
   rw[K3 h3,ID,if_pos ⟨aa,ai⟩,A0,mJ,IE n _ (by rw[bd];omega),hc];show some (List.replicate (126+fy l-126) (l.headD 0)++l.drop (fy l))=some l;rw[show 126+fy l-126=fy l by omega];have:=Uj (l.headD 0) 129 l;rw[show jq (l.headD 0) 129 l=fy l from rfl]at this;rw[<-this,eN]
  ·have hk:=FM hl;have hc:(UInt8.ofNat (jD l-1)).toNat=jD l-1:=by rw[jl];omega
   have htl:(l.take (jD l)).length=jD l:=by rw[bb];omega
   rw[Du hl aa,ID,if_neg aa,hc,if_pos ⟨aa,by rw[aq];omega⟩,show jD l-1+1=jD l by omega];rw[List.drop_left' htl,List.take_left' htl,IE n _ (by rw[bd];omega)];show some (l.take (jD l)++l.drop (jD l))=some l;rw[eN]
def oP(l:ad)(size:Nat):fx:=match kK l with
 | none=>none
 | some o=>if o.length=size/\ik o=l then some o else none
theorem VN{o:ad}:oP l size=some o↔o.length=size/\ik o=l:=by
 unfold oP;constructor
 ·intro h;cases hd:kK l with
  | none=>rw[hd]at h;cases h
  | some y =>
   rw[hd]at h;dsimp only at h;split at h
   ·cases h;assumption
   ·cases h
 ·rintro⟨h1,rfl⟩;rw[IE _ o (Nat.lt_succ_self _)];dsimp only;rw[if_pos ⟨h1,rfl⟩]
theorem afY(hk:k<l.length)(h9:k<129)(h:fy l=k+jq (l.headD 0) (129-k) (l.drop k)):fy l=if l[k].toNat=(l[0]'aa).toNat then k+1+jq (l.headD 0) (129-(k+1)) (l.drop (k+1))else k:=by
 obtain⟨m,hm⟩:∃m,129-k=m+1:=⟨128-k,aa⟩
 rw[hm,afW _ _ hk]at h;rw[show 129-(k+1)=m by omega];have e:l.headD 0=l[0]'aa:=by cases l with|nil=>simp at hk|cons y l=>rfl
 by_cases hx:l[k]=l.headD 0
 ·rw[if_pos hx]at h;rw[if_pos (by rw[hx,e])];omega
 ·rw[if_neg hx]at h;rw[if_neg (λq=>hx (by rw[e];exact eF.1 q))];omega
section
variable{V W:ae}
theorem Ul(hV:Sub V W){s:Sl}{l:ad}(hs:ay V s l)(hl:l.length<=1099511627776):aC 279 [s.v] W λv w'=>v=iv ((fy l:Nat):Int)/\Rel W V [] V w':=by
 have H:=Rel.start hV;have hlen:=hs.len;refine eV Tryz.func279 25 [0,2,3,21] ?_;refine wk ?_;refine aY (S:=Nat) ah [0,2] (λk=>[(0,s.v),(3,iv k)]) (λk w'=>k<=l.length/\k<=129/\fy l=k+jq (l.headD 0) (129-k) (l.drop k)/\Rel W V [] V w') (λk _=>l.length-k) 0 ?_;conv=>whnf
 refine⟨sB,⟨aa,aa,by show fy l=0+jq (l.headD 0) 129 (l.drop 0);rw[Nat.zero_add,kZ];rfl,H⟩,?_⟩;clear H;rintro k w⟨hk,h9,hr,H⟩;by_cases hlt:k<l.length;rotate_left
 ·rw[afT _ _ aa]at hr;refine wk ?_;refine dV 2 [] [0,1,2,3,4,5,6,7,8,9,10,11,12,13,14,15,16,17] H ?_;clear H;intro w H;refine wk ?_;exact⟨congrArg (λn:Nat=>iv n) (hr.trans (mK k)).symm,H.sx⟩
 by_cases aak:k<129;rotate_left
 ·rw[show 129-k=0 by omega]at hr;simp only[jq]at hr;refine wk ?_;refine dV 2 [] [0,1,2,3,4,5,6,7,8,9,10,11,12,13,14,15,16,17] H ?_;clear H;intro w H;refine wk ?_;exact⟨congrArg (λn:Nat=>iv n) (hr.trans (mK k)).symm,H.sx⟩
 have hr:=afY hlt aak hr;obtain⟨p1,c1⟩:=hs.aX (g:=bv) (λ_=>rfl) hlt;obtain⟨p0,c0⟩:=hs.aX (g:=bv) (λ_=>rfl) (show 0<l.length by omega);by_cases he:l[k].toNat=l[0].toNat
 ·rw[if_pos he]at hr;refine wk ?_;refine dV 2 [] [0,1,2,3,4,5,6,7,8,9,10,11,12,13,14,15,16,17] H ?_;clear H;intro w H;refine wk ?_;exact⟨sB,k+1,sB,⟨aa,aa,hr,H⟩,aa⟩
 ·rw[if_neg he]at hr;refine wk ?_;refine dV 2 [] [0,1,2,3,4,5,6,7,8,9,10,11,12,13,14,15,16,17] H ?_;clear H;intro w H;refine wk ?_;exact⟨congrArg (λn:Nat=>iv n) hr.symm,H.sx⟩
theorem ay.rest(h:ay V q X){k:Nat}(hk:k<=X.length):ay V ⟨aU q.a k q.cap 1,q.len-k,q.cap-k⟩ (X.drop k):=by
 have:=aB.sub h (n:=1) (λ_=>rfl) (a:=k) (b:=X.length) hk (aK _);rw[List.take_length]at this;rw[h.len];exact this
theorem ay.head(h:ay V q X){k:Nat}(hk:k<=X.length):ay V ⟨aU q.a 0 q.cap 1,k,q.cap⟩ (X.take k):=aB.sub h (n:=1) (λ_=>rfl) (a:=0) (b:=k) (cu _) hk
theorem adI(hn:n<=129){y:UInt8}(hy:y=X.headD 0):[Value.int .u8 (wr .u8 (126+(n:Int))),bv y]=[UInt8.ofNat (126+n),X.headD 0].flatMap aE:=by
 have e1:wr .u8 (126+(n:Int))=((126+n:Nat):Int):=by show(126+(n:Int))%256=_;omega
 have e2:(UInt8.ofNat (126+n)).toNat=126+n:=by rw[jl];omega
 simp only[bz,gB,aE,bv,aL,aA,e1,e2,hy]
theorem KD(h1:1<=k)(h2:k<=128):[Value.int .u8 (wr .u8 ((k:Int)-1))]=[UInt8.ofNat (k-1)].flatMap aE:=by
 have e1:wr .u8 ((k:Int)-1)=((k-1:Nat):Int):=by show((k:Int)-1)%256=_;omega
 have e2:(UInt8.ofNat (k-1)).toNat=k-1:=by rw[jl];omega
 simp only[bz,gB,aE,bv,cm,e1,e2]
theorem SN(hV:Sub V W){s:Sl}{l:ad}(hs:ay V s l)(hl:l.length<=100000000):aC 219 [s.v] W λv w'=>∃r:Sl,v=r.v/\Rel W V [.row r 5 1 ((ik l).flatMap aE)] V w':=by
 have H:=Rel.start hV;have hlen:=hs.len;refine eV Tryz.func219 56 [0,2,3,4,5,8,12,39] ?_;refine wk ?_;replace H:=H.cb 5 1;refine aY (S:=Sl×ad×Sl×ad) ah [2] (λk=>[(0,k.1.v),(3,k.2.2.1.v)]) (λk w'=>ay V k.1 k.2.1/\ik l=k.2.2.2++ik k.2.1/\k.2.1.length<=l.length/\k.2.2.2.length+2*k.2.1.length<=2*l.length/\Rel W V [.row k.2.2.1 5 1 (k.2.2.2.flatMap aE)] V w') (λk _=>k.2.1.length) (s,l,⟨none,0,0⟩,[]) ?_;conv=>whnf
 refine⟨sB,⟨hs,rfl,aK _,ai,H⟩,?_⟩;clear H;rintro⟨q,X,r,O⟩w⟨hq,hp,hX,hO,H⟩;dsimp only at hq hp hX hO H |-;have eW:=hq.len;have CQ:=hq.cap;by_cases h0:X.length=0
 ·rw[bL h0,K2,cm]at hp;refine wk ?_;exact⟨r,rfl,by rw[hp];exact H⟩
 have hne:X≠[]:=λh=>h0 (by rw[h];rfl);obtain⟨p0,c0⟩:=hq.aX (g:=bv) (λ_=>rfl) (show 0<X.length by omega);have X2:X[0]'(by omega)=X.headD 0:=by cases X with|nil=>exact absurd rfl hne|cons y l=>rfl
 refine wk ?_;refine(Ul H.data hq aa).use ?_;rintro v w⟨rfl,K⟩;(replace H:=H.az K);have hr:=Mj X;have vt:=afX hne;by_cases h3:3<=fy X
 ·have hf:=hq.rest hr.2;refine wk ?_;refine H.nA ?_;clear H;intro w _ H;refine wk ?_;replace H:=H.bA (adI hr.1 X2);replace H:=H.fA (n:=2) (e:=5) (sz:=1) rfl (by simp[maxLen]);refine Rel.dD H (i:=0) rfl (by simp only[av,aI];omega) ?_;clear H;intro r1 w H;simp only[bC]at H;refine wk ?_;exact⟨sB,(_,X.drop (fy X),r1,O++[UInt8.ofNat (126+fy X),X.headD 0]),sB,⟨hf,by rw[hp,K3 h3];simp,by rw[bd];omega,by simp only[aq,bd,av,aI];omega,H⟩,by rw[bd];omega⟩
 have JS:=FM hne;refine wk ?_;refine aY (S:=Nat) ah [0,2,3,4,8,12] (λk=>[(0,q.v),(3,r.v),(5,iv k)]) (λk w'=>1<=k/\k<=X.length/\k<=128/\jD X=k+sA (128-k) (X.drop k)/\Rel W V [.row r 5 1 (O.flatMap aE)] V w') (λk _=>X.length-k) 1 ?_;conv=>whnf
 refine⟨sB,⟨aa,aa,aa,rfl,H⟩,?_⟩;clear H;rintro k w⟨dW,fP,Fs,nj,H⟩;dsimp only at dW fP Fs nj H |-;by_cases hlt:k<X.length;rotate_left
 ·rw[ace _ aa]at nj;refine wk ?_;(first|refine cz (id:=10) ah mixed (Kv V) Kv.trans [] [] [0,1,2,3,6,7,8,4,5,9,10] [(4,[]),(5,[4]),(9,[4,5])] aj ?_);intro w aR;replace H:=Rel.ext H aR.ext;repeat' (refine wk ?_;(first|refine Kv.go H ?_|refine Kv.go2 H (by assumption) ?_|(refine And.intro (λw1 hkp=>?_) ?_;focus ((first|have H:=Kv.in H hkp|have H:=Kv.gi H (by assumption) hkp);((repeat ((conv=>whnf);first|refine an ?_|refine H.ce ?_|refine H.db ?_|refine ea ?_|refine ol ?_|fail|refine cT ?_|refine cF ?_|refine cN ?_|refine cM ?_|refine H.lw ?_|refine H.ll ?_));(conv=>whnf));all_goals (first|exact⟨rfl,rfl⟩|exact rfl)))|refine And.intro ?_ ?_|(refine H.nA ?_;clear H;intro w _ H)))
  refine wk ?_;replace H:=H.bA (KD dW Fs);replace H:=H.fA (n:=1) (e:=5) (sz:=1) rfl (by simp[maxLen]);refine Rel.dD H (i:=0) rfl (by simp only[av,aI];omega) ?_;clear H;intro r1 w H;simp only[bC]at H;repeat' (refine wk ?_;(first|refine Kv.go H ?_|refine Kv.go2 H (by assumption) ?_|(refine And.intro (λw1 hkp=>?_) ?_;focus ((first|have H:=Kv.in H hkp|have H:=Kv.gi H (by assumption) hkp);((repeat ((conv=>whnf);first|refine an ?_|refine H.ce ?_|refine H.db ?_|refine ea ?_|refine ol ?_|fail|refine cT ?_|refine cF ?_|refine cN ?_|refine cM ?_|refine H.lw ?_|refine H.ll ?_));(conv=>whnf));all_goals (first|exact⟨rfl,rfl⟩|exact rfl)))|refine And.intro ?_ ?_|(refine H.nA ?_;clear H;intro w _ H)))
  refine wk ?_;refine Rel.eJ H (i:=0) rfl (hq.head fP) (by simp only[aq,av,aI,bb];omega) ?_;clear H;intro r2 w H;simp only[bC]at H;repeat' (refine wk ?_;(first|refine Kv.go H ?_|refine Kv.go2 H (by assumption) ?_|(refine And.intro (λw1 hkp=>?_) ?_;focus ((first|have H:=Kv.in H hkp|have H:=Kv.gi H (by assumption) hkp);((repeat ((conv=>whnf);first|refine an ?_|refine H.ce ?_|refine H.db ?_|refine ea ?_|refine ol ?_|fail|refine cT ?_|refine cF ?_|refine cN ?_|refine cM ?_|refine H.lw ?_|refine H.ll ?_));(conv=>whnf));all_goals (first|exact⟨rfl,rfl⟩|exact rfl)))|refine And.intro ?_ ?_|(refine H.nA ?_;clear H;intro w _ H)))
  ·trivial
  have hf:=hq.rest fP;exact⟨(_,X.drop k,r2,O++[UInt8.ofNat (k-1)]++X.take k),sB,⟨hf,by rw[hp,Du hne aa,nj];simp,by rw[bd];omega,by simp only[aq,bd,av,aI,bb];omega,H⟩,by rw[bd];omega⟩
 by_cases h128:k<128;rotate_left
 ·rw[show 128-k=0 by omega]at nj;simp only[sA]at nj;refine wk ?_;(first|refine cz (id:=10) ah mixed (Kv V) Kv.trans [] [] [0,1,2,3,6,7,8,4,5,9,10] [(4,[]),(5,[4]),(9,[4,5])] aj ?_);intro w aR;replace H:=Rel.ext H aR.ext;repeat' (refine wk ?_;(first|refine Kv.go H ?_|refine Kv.go2 H (by assumption) ?_|(refine And.intro (λw1 hkp=>?_) ?_;focus ((first|have H:=Kv.in H hkp|have H:=Kv.gi H (by assumption) hkp);((repeat ((conv=>whnf);first|refine an ?_|refine H.ce ?_|refine H.db ?_|refine ea ?_|refine ol ?_|fail|refine cT ?_|refine cF ?_|refine cN ?_|refine cM ?_|refine H.lw ?_|refine H.ll ?_));(conv=>whnf));all_goals (first|exact⟨rfl,rfl⟩|exact rfl)))|refine And.intro ?_ ?_|(refine H.nA ?_;clear H;intro w _ H)))
  refine wk ?_;replace H:=H.bA (KD dW Fs);replace H:=H.fA (n:=1) (e:=5) (sz:=1) rfl (by simp[maxLen]);refine Rel.dD H (i:=0) rfl (by simp only[av,aI];omega) ?_;clear H;intro r1 w H;simp only[bC]at H;repeat' (refine wk ?_;(first|refine Kv.go H ?_|refine Kv.go2 H (by assumption) ?_|(refine And.intro (λw1 hkp=>?_) ?_;focus ((first|have H:=Kv.in H hkp|have H:=Kv.gi H (by assumption) hkp);((repeat ((conv=>whnf);first|refine an ?_|refine H.ce ?_|refine H.db ?_|refine ea ?_|refine ol ?_|fail|refine cT ?_|refine cF ?_|refine cN ?_|refine cM ?_|refine H.lw ?_|refine H.ll ?_));(conv=>whnf));all_goals (first|exact⟨rfl,rfl⟩|exact rfl)))|refine And.intro ?_ ?_|(refine H.nA ?_;clear H;intro w _ H)))
  refine wk ?_;refine Rel.eJ H (i:=0) rfl (hq.head fP) (by simp only[aq,av,aI,bb];omega) ?_;clear H;intro r2 w H;simp only[bC]at H;repeat' (refine wk ?_;(first|refine Kv.go H ?_|refine Kv.go2 H (by assumption) ?_|(refine And.intro (λw1 hkp=>?_) ?_;focus ((first|have H:=Kv.in H hkp|have H:=Kv.gi H (by assumption) hkp);((repeat ((conv=>whnf);first|refine an ?_|refine H.ce ?_|refine H.db ?_|refine ea ?_|refine ol ?_|fail|refine cT ?_|refine cF ?_|refine cN ?_|refine cM ?_|refine H.lw ?_|refine H.ll ?_));(conv=>whnf));all_goals (first|exact⟨rfl,rfl⟩|exact rfl)))|refine And.intro ?_ ?_|(refine H.nA ?_;clear H;intro w _ H)))
  ·trivial
  have hf:=hq.rest fP;exact⟨(_,X.drop k,r2,O++[UInt8.ofNat (k-1)]++X.take k),sB,⟨hf,by rw[hp,Du hne aa,nj];simp,by rw[bd];omega,by simp only[aq,bd,av,aI,bb];omega,H⟩,by rw[bd];omega⟩
 have hkr:=hq.rest fP;rw[show 128-k=127-k+1 by omega,acf _ hlt]at nj;refine wk ?_;refine(Ul H.data hkr (by rw[bd];omega)).use ?_;rintro v w⟨rfl,K⟩;(replace H:=H.az K);by_cases h4:3<=fy (X.drop k)
 ·rw[if_pos h4]at nj;refine wk ?_;(first|refine cz (id:=10) ah mixed (Kv V) Kv.trans [] [] [0,1,2,3,6,7,8,4,5,9,10] [(4,[]),(5,[4]),(9,[4,5])] aj ?_);intro w aR;replace H:=Rel.ext H aR.ext;repeat' (refine wk ?_;(first|refine Kv.go H ?_|refine Kv.go2 H (by assumption) ?_|(refine And.intro (λw1 hkp=>?_) ?_;focus ((first|have H:=Kv.in H hkp|have H:=Kv.gi H (by assumption) hkp);((repeat ((conv=>whnf);first|refine an ?_|refine H.ce ?_|refine H.db ?_|refine ea ?_|refine ol ?_|fail|refine cT ?_|refine cF ?_|refine cN ?_|refine cM ?_|refine H.lw ?_|refine H.ll ?_));(conv=>whnf));all_goals (first|exact⟨rfl,rfl⟩|exact rfl)))|refine And.intro ?_ ?_|(refine H.nA ?_;clear H;intro w _ H)))
  refine wk ?_;replace H:=H.bA (KD dW Fs);replace H:=H.fA (n:=1) (e:=5) (sz:=1) rfl (by simp[maxLen]);refine Rel.dD H (i:=0) rfl (by simp only[av,aI];omega) ?_;clear H;intro r1 w H;simp only[bC]at H;repeat' (refine wk ?_;(first|refine Kv.go H ?_|refine Kv.go2 H (by assumption) ?_|(refine And.intro (λw1 hkp=>?_) ?_;focus ((first|have H:=Kv.in H hkp|have H:=Kv.gi H (by assumption) hkp);((repeat ((conv=>whnf);first|refine an ?_|refine H.ce ?_|refine H.db ?_|refine ea ?_|refine ol ?_|fail|refine cT ?_|refine cF ?_|refine cN ?_|refine cM ?_|refine H.lw ?_|refine H.ll ?_));(conv=>whnf));all_goals (first|exact⟨rfl,rfl⟩|exact rfl)))|refine And.intro ?_ ?_|(refine H.nA ?_;clear H;intro w _ H)))
  refine wk ?_;refine Rel.eJ H (i:=0) rfl (hq.head fP) (by simp only[aq,av,aI,bb];omega) ?_;clear H;intro r2 w H;simp only[bC]at H;repeat' (refine wk ?_;(first|refine Kv.go H ?_|refine Kv.go2 H (by assumption) ?_|(refine And.intro (λw1 hkp=>?_) ?_;focus ((first|have H:=Kv.in H hkp|have H:=Kv.gi H (by assumption) hkp);((repeat ((conv=>whnf);first|refine an ?_|refine H.ce ?_|refine H.db ?_|refine ea ?_|refine ol ?_|fail|refine cT ?_|refine cF ?_|refine cN ?_|refine cM ?_|refine H.lw ?_|refine H.ll ?_));(conv=>whnf));all_goals (first|exact⟨rfl,rfl⟩|exact rfl)))|refine And.intro ?_ ?_|(refine H.nA ?_;clear H;intro w _ H)))
  ·trivial
  have hf:=hq.rest fP;exact⟨(_,X.drop k,r2,O++[UInt8.ofNat (k-1)]++X.take k),sB,⟨hf,by rw[hp,Du hne aa,nj];simp,by rw[bd];omega,by simp only[aq,bd,av,aI,bb];omega,H⟩,by rw[bd];omega⟩
 rw[if_neg h4]at nj;refine wk ?_;exact⟨sB,k+1,sB,⟨aa,aa,aa,by rw[show 128-(k+1)=127-k by omega];omega,H⟩,aa⟩
end
abbrev fV(f:Nat)(p:Sl):aD:=[iv (f:Int),p.v]
def bitsOf(f:Nat):Nat:=if f/16=0 then 1 else if f/16=1 then 4 else if f/16=2 then 8 else 24
def rowOf(f w:Nat):Nat:=(w*bitsOf f+7)/8
theorem BM(f:Nat):1<=bitsOf f/\bitsOf f<=24:=by
 unfold bitsOf;split
 ·decide
 ·split
  ·decide
  ·split<;>decide
theorem and_1:∀f:Nat,f<256->bN .and .i64 (f:Int) 1=((f%2:Nat):Int):=by decide +kernel
theorem and_2:∀f:Nat,f<256->bN .and .i64 (f:Int) 2=((2*(f/2%2):Nat):Int):=by decide +kernel
section
variable{V W:ae}
theorem Cb(hV:Sub V W)(c i:Int):aC 131 [iv c,iv i] W λv w'=>v=kg c i/\Rel W V [] V w':=by
 have H:=Rel.start hV;refine eV Tryz.func131 8 [0,1,4] ?_;refine H.wg ?_;clear H;intro _ _ w H;exact H.sx
theorem zN(hV:Sub V W){f:Nat}(hf:f<256)(p:Sl):aC 139 [.agg (fV f p).toArray] W λv w'=>v=iv ((f/16:Nat):Int)/\Rel W V [] V w':=by
 have H:=Rel.start hV;refine eV Tryz.func139 6 [0,1,2] ?_;refine wk ?_;refine H.nA ?_;clear H;intro w b1 H;refine wk ?_;exact H.sx
theorem C5(hV:Sub V W){f:Nat}(hf:f<256)(p:Sl):aC 142 [.agg (fV f p).toArray] W λv w'=>v=.bool (decide (f<32))/\Rel W V [] V w':=by
 have H:=Rel.start hV;refine eV Tryz.func142 6 [0,1,2] ?_;refine wk ?_;refine H.nA ?_;clear H;intro w b1 H;refine wk ?_;refine(zN H.data aa p).use ?_;rintro q w⟨rfl,K⟩;(replace H:=H.az K);refine wk ?_;exact⟨congrArg Value.bool (decide_eq_decide.2 aa),H.sx⟩
theorem Es(hV:Sub V W){f:Nat}(hf:f<64)(p:Sl):aC 140 [.agg (fV f p).toArray] W λv w'=>v=iv ((bitsOf f:Nat):Int)/\Rel W V [] V w':=by
 have H:=Rel.start hV;refine eV Tryz.func140 7 [0,1,2] ?_;refine wk ?_;refine H.nA ?_;clear H;intro w b1 H;refine wk ?_;refine bo.of (v:=.agg #[iv 1,iv 4,iv 8,iv 24]) (w':=w) aj ?_;refine wk ?_;refine(zN H.data aa p).use ?_;rintro q w⟨rfl,K⟩;(replace H:=H.az K);unfold bitsOf;obtain⟨d,hd⟩:∃d,d=f/16:=⟨_,rfl⟩
 rw[<-hd];have:d=0\/d=1\/d=2\/d=3:=aa;clear hd;rcases this with rfl|rfl|rfl|rfl
 all_goals
  refine wk ?_;exact H.sx
theorem Mh(hV:Sub V W){f:Nat}(hf:f<64)(p:Sl){wd:Nat}(hw:wd<=64):aC 272 [.agg (fV f p).toArray,iv (wd:Int)] W λv w'=>v=iv ((rowOf f wd:Nat):Int)/\Rel W V [] V w':=by
 have H:=Rel.start hV;have hb:=BM f;have hm:wd*bitsOf f<=64*24:=lU hw hb.2;have hmi:(wd:Int)*((bitsOf f:Nat):Int)=((wd*bitsOf f:Nat):Int):=(Int.natCast_mul _ _).symm;refine eV Tryz.func272 11 [0,1,2,4] ?_;refine wk ?_;refine H.nA ?_;clear H;intro w b1 H;refine wk ?_;refine(Es H.data hf p).use ?_;rintro q w⟨rfl,K⟩;(replace H:=H.az K);refine wk ?_;exact H.sx
theorem Qk(hV:Sub V W){f:Nat}(hf:f<256)(p:Sl):aC 141 [.agg (fV f p).toArray,iv 1] W λv w'=>v=.bool (decide (f%2=1))/\Rel W V [] V w':=by
 have H:=Rel.start hV;refine eV Tryz.func141 10 [0,1,2,4] ?_;refine wk ?_;refine H.nA ?_;clear H;intro w b1 H;refine wk ?_;rw[and_1 f hf];refine wk ?_;exact⟨by first|exact congrArg Value.bool (decide_eq_decide.2 aa)|(rw[<-decide_not];exact congrArg Value.bool (decide_eq_decide.2 aa)),H.sx⟩
theorem Ql(hV:Sub V W){f:Nat}(hf:f<256)(p:Sl):aC 141 [.agg (fV f p).toArray,iv 2] W λv w'=>v=.bool (decide (f/2%2=1))/\Rel W V [] V w':=by
 have H:=Rel.start hV;refine eV Tryz.func141 10 [0,1,2,4] ?_;refine wk ?_;refine H.nA ?_;clear H;intro w b1 H;refine wk ?_;rw[and_2 f hf];refine wk ?_;exact⟨by first|exact congrArg Value.bool (decide_eq_decide.2 aa)|(rw[<-decide_not];exact congrArg Value.bool (decide_eq_decide.2 aa)),H.sx⟩
theorem VS(f:Nat)(w:ae)(hf:f<256):aC 209 [iv (f:Int)] w λv w'=>v=.bool (decide (f<64/\f%16<4))/\w=w':=by
 refine eV Tryz.func209 11 [0,2] ?_;by_cases h1:f<64
 ·refine wk ?_;exact⟨congrArg Value.bool (decide_eq_decide.2 aa),rfl⟩
 ·refine wk ?_;exact⟨(congrArg Value.bool (decide_eq_false (λh=>h1 h.1))).symm,rfl⟩
end
abbrev wi:ad:=[119,105,100,116,104]
abbrev v8:ad:=[104,101,105,103,104,116]
abbrev wa:ad:=[112,105,120,101,108,115]
abbrev pL(wd ht:Int)(b:ad):ar:=.mk 4 0 [] [wi,v8,wa] [.mk 1 wd [] [] [],.mk 1 ht [] [] [],.mk 2 0 b [] []]
theorem ad2{bn bp:Nat}{r:Sl}(h1:Cells V (some ⟨bn,0,none⟩) [str wi,str v8,str wa])(h2:Cells V (some ⟨bp,0,none⟩) (cr (kV wd)++(cr (kV ht)++cr (iZ r))))(h3:ay V r b) :
  bV V ⟨4,0,⟨none,0,0⟩,⟨some ⟨bn,0,none⟩,3,3⟩,⟨some ⟨bp,0,none⟩,3,3⟩⟩ (pL wd ht b):=by
 refine Na (hs:=[kV wd,kV ht,iZ r]) ⟨rfl,aK _,h1⟩ ⟨rfl,aK _,h2⟩ rfl λi x p hx hp=>?_;match i,hx,hp with
 | 0,hx,hp=>cases hx;cases hp;exact Bj _ _
 | 1,hx,hp=>cases hx;cases hp;exact Bj _ _
 | 2,hx,hp=>cases hx;cases hp;exact y7 h3
 | k+3,hx,hp=>simp at hx
theorem Wc(h1:dx wd)(h2:dx ht)(h3:b.length<=1048576):VB 1048576 (pL wd ht b):=by
 refine .mk (j1 4) (j1 0) (cu _) (by show 3<=1048576;decide) (λs hs=>?_) (by show 3<=1048576;decide) λp hp=>?_
 ·simp only[ar.names,bB,pQ,or_false]at hs;rcases hs with rfl|rfl|rfl<;>decide
 ·simp only[ar.parts,bB,pQ,or_false]at hp;rcases hp with rfl|rfl|rfl
  ·exact Bl h1
  ·exact Bl h2
  ·exact wF h3
theorem ZT{f:α->aD}{l:List α}(h:∀x,(f x).all Value.oneCell'=true):∀u∈l.flatMap f,u.oneCell'=true:=by
 intro u hu;obtain⟨x,_,hx⟩:=List.mem_flatMap.1 hu;exact bj.1 (h x) u hx
section
variable{V W:ae}
theorem Yr(hV:Sub V W){s:Sl}{l:ad}(hs:aB aE V s l)(hl:l.length<=1099511627776):aC 73 [s.v] W λv w'=>∃(V':ae) (t:Sl),Sub V V'/\Rel W V [] V' w'/\v=t.v/\aB aE V' t l:=by
 have H:=Rel.start hV;have hlen:=hs.len;refine eV Tryz.func73 8 [0,2,4] ?_;rcases s with⟨_|p,n,c⟩
 ·have tN:l=[]:=by
   rcases l with _|⟨b,l⟩
   ·rfl
   ·have:=hs.cells.1 (by simp[aE]);simp[Plain]at this
  subst tN;refine wk ?_;exact⟨V,⟨none,0,0⟩,Sub.refl V,H.sx,rfl,aB.nil _ _⟩
 ·refine wk ?_;refine H.nA ?_;clear H;intro w b5 H;refine wk ?_;replace H:=H.fA (n:=0) (e:=5) (sz:=1) rfl (by simp[maxLen]);refine Rel.NH (s:=⟨some ⟨b5,0,none⟩,0,0⟩) (x:=⟨some p,n,c⟩) ah rfl rfl rfl rfl rfl ag H (hs.up H.data).cells (pf (n:=1) (λ_=>rfl) l |>.trans (by rw[<-hlen])) (ZT (λ_=>rfl)) (by simp;dsimp only at hlen;omega) (by simp;dsimp only at hlen;omega) ?_;clear H;intro rn w H hrn;refine wk ?_;obtain⟨V2,hV2,H,hr⟩:=Rel.aT H (λ_=>rfl) ag;exact⟨V2,rn,hV2,H.sx,rfl,hr⟩
theorem Sw(hV:Sub V W)(n:Int):aC 212 [iv n] W λq w'=>q=fb (kV n)/\Rel W V [] V w':=by
 have H:=Rel.start hV;refine eV Tryz.func212 5 [0,2] ?_;refine wk ?_;refine H.nA ?_;clear H;intro w b2 H;refine H.wg ?_;clear H;intro w H;exact H.sx
theorem ad7(hV:Sub V W)(wd ht:Int){s:Sl}{b:ad}(hs:ay V s b)(hl:b.length<=1099511627776) :
  aC 133 [iv wd,iv ht,s.v] W λq w'=>∃(V':ae) (h:VH),Sub V V'/\Rel W V [] V' w'/\q=fb h/\bV V' h (pL wd ht b):=by
 have H:=Rel.start hV;refine eV Tryz.func133 20 [0,1,2,6,7] ?_;refine wk ?_;refine H.nA ?_;clear H;intro w b6 H;refine wk ?_;refine H.nA ?_;clear H;intro w b7 H;refine wk ?_;refine(Sw H.data wd).use ?_;rintro q w⟨rfl,K⟩;(replace H:=H.az K);refine wk ?_;refine(Sw H.data ht).use ?_;rintro q w⟨rfl,K⟩;(replace H:=H.az K);refine wk ?_;refine(Yr H.data hs hl).use ?_;rintro q w⟨V2,r,hV2,K,rfl,hr⟩;(replace H:=H.az K);refine wk ?_;refine H.nA ?_;clear H;intro w mf H;have H0:Rel W V [.ax mf (cr (kV wd)++(cr (kV ht)++cr (iZ r))) 27,.ax b7 [str wi,str v8,str wa] 9,.ax b6 (cr eR) 27] V2 w:=H;obtain⟨V3,aw,H,tE⟩:=H0.bt;clear H0;obtain⟨V4,aG,H,kO⟩:=H.bt;refine H.wg ?_;clear H;intro w H;exact⟨V4,_,(hV2.trans aw).trans aG,H.sx,rfl,ad2 kO.cells (tE.cells.fa aG) ((hr.up aw).up aG)⟩
end
abbrev bS:=UInt8×UInt8×UInt8
abbrev uV(c:bS):ad:=[c.1,c.2.1,c.2.2]
abbrev fY(p:List bS):ad:=p.flatMap uV
def mi:ad->List bS
 | r::g::b::l=>(r,g,b)::mi l
 | _=>[]
theorem EE:∀p:List bS,mi (fY p)=p
 | []=>rfl
 | c::p=>by
  show(c.1,c.2.1,c.2.2)::mi (fY p)=c::p;rw[EE p]
theorem Ih:∀(n:Nat) {l:ad},l.length=3*n->fY (mi l)=l/\(mi l).length=n
 | 0,[],_=>⟨rfl,rfl⟩
 | 0,_::_,h=>by simp at h
 | n+1,[],h=>by first|(simp at h;omega)|simp at h
 | n+1,[_],h=>by first|(simp at h;omega)|simp at h
 | n+1,[_,_],h=>by first|(simp at h;omega)|simp at h
 | n+1,r::g::b::l,h=>by
  obtain⟨k1,k2⟩:=Ih n (l:=l) (by simp at h;omega);show[r,g,b]++fY (mi l)=_/\(mi l).length+1=_;rw[k1,k2];exact⟨rfl,rfl⟩
theorem nY(p:List bS):(fY p).length=3*p.length:=by
 induction p with
 | nil=>rfl
 | cons c p ih=>simp only[fY,bz,aq,av,aI]at ih |-;omega
abbrev z8(l:ad)(i:Nat):UInt8:=l[i]?.getD 0
abbrev dJ(l:ad)(i:Nat):bS:=(z8 l (3*i),z8 l (3*i+1),z8 l (3*i+2))
theorem N6(l:ad):∀(n:Nat),l.length=3*n->mi l=(List.range n).map (dJ l):=by
 intro n;induction n generalizing l with
 | zero=>intro h;rw[bL (l:=l) aa];rfl
 | succ n ih =>
  intro h;match l,h with
  | r::g::b::l,h =>
   rw[DB,fq,kz];show(r,g,b)::mi l=_;rw[ih l (by simp at h;omega)];congr 1
  | [],h=>first|(simp at h;omega)|simp at h
  | [_],h=>first|(simp at h;omega)|simp at h
  | [_,_],h=>first|(simp at h;omega)|simp at h
def ku:List bS->bS->Nat
 | [],_=>0
 | x::l,c=>if x=c then 0 else ku l c+1
theorem Dv(c:bS):∀l,ku l c<=l.length/\(ku l c<l.length↔c∈l)
 | []=>⟨aK _,by simp[ku]⟩
 | x::l=>by
  obtain⟨k1,k2⟩:=Dv c l;unfold ku;split
  ·rename_i h;subst h;simp
  ·rename_i h;refine⟨by simp;omega,?_⟩;rw[av,Nat.succ_lt_succ_iff,k2,bB];exact⟨.inr,λq=>q.resolve_left λe=>h e.symm⟩
theorem S8:∀ {l:List bS} {i:Nat} {c:bS},l.Nodup->l[i]?=some c->ku l c=i
 | x::l,0,c,_,h=>by
  simp at h;subst h;unfold ku;rw[if_pos rfl]
 | x::l,i+1,c,hn,h=>by
  rw[List.getElem?_cons_succ]at h;obtain⟨h1,h2⟩:=List.nodup_cons.1 hn;unfold ku;rw[if_neg (λe=>h1 (by rw[e];exact fH h)),S8 h2 h]
def pF(f:Nat):Nat:=if f/16=1 then 16 else 2
def Dq(f:Nat)(l:ad)(n:Nat):Prop:=1<=n/\n<=pF f/\3*n<=l.length/\(mi (l.take (3*n))).Nodup
instance(f:Nat)(l:ad)(n:Nat):Decidable (Dq f l n):=by unfold Dq;infer_instance
def kW(f:Nat):ad->Option (List bS×ad)
 | []=>none
 | c::l=>if Dq f l c.toNat then some (mi (l.take (3*c.toNat)),l.drop (3*c.toNat))else none
def rl(f:Nat)(b:ad):Option (List bS×ad):=if f<32 then kW f b else some ([],b)
def sG(p:List bS):ad:=UInt8.ofNat p.length::fY p
def gD(f:Nat)(p:List bS):ad:=if f<32 then sG p else[]
structure kF(f:Nat)(p:List bS):Prop where
 ind:f<32->1<=p.length/\p.length<=pF f/\p.Nodup
 non:32<=f->p=[]
theorem Di(f:Nat):pF f<=16:=by unfold pF;split<;>omega
theorem kF.le{p:List bS}(h:kF f p):p.length<=16:=by
 by_cases hf:f<32
 ·have:=h.ind hf;have:=Di f;omega
 ·rw[h.non aa];simp
theorem adQ{p:List bS}(h:kW f b=some (p,l)):b=sG p++l/\1<=p.length/\p.length<=pF f/\p.Nodup:=by
 cases b with
 | nil=>cases h
 | cons c r =>
  unfold kW at h;simp only at h;by_cases hk:Dq f r c.toNat
  ·rw[if_pos hk]at h;obtain⟨h1,h2,h3,h4⟩:=hk;cases h;obtain⟨k1,k2⟩:=Ih c.toNat (l:=r.take (3*c.toNat)) (by rw[bb];omega);refine⟨?_,by rw[k2];exact h1,by rw[k2];exact h2,h4⟩;unfold sG;rw[k1,k2,aL,eN];congr 1;exact(A2).symm
  ·rw[if_neg hk]at h;cases h
theorem adP{p:List bS}(l:ad)(h:1<=p.length/\p.length<=pF f/\p.Nodup):kW f (sG p++l)=some (p,l):=by
 have hm:=Di f;have e:(UInt8.ofNat p.length).toNat=p.length:=by rw[jl];omega
 have e1:(fY p++l).take (3*p.length)=fY p:=by rw[<-nY,pX]
 have e2:(fY p++l).drop (3*p.length)=l:=by rw[<-nY,k7]
 show(if Dq f (fY p++l) (UInt8.ofNat p.length).toNat then some (mi ((fY p++l).take (3*(UInt8.ofNat p.length).toNat)),(fY p++l).drop (3*(UInt8.ofNat p.length).toNat))else none)=_;rw[e,e1,e2,EE,if_pos];refine⟨h.1,h.2.1,by rw[aq,nY];omega,?_⟩;rw[e1,EE];exact h.2.2
theorem G9{p:List bS}(h:rl f b=some (p,l)):b=gD f p++l/\kF f p:=by
 unfold rl at h;unfold gD;split at h
 ·rename_i hf;rw[if_pos hf];obtain⟨k1,k2⟩:=adQ h;exact⟨k1,λ_=>k2,λq=>by omega⟩
 ·rename_i hf;rw[if_neg hf];cases h;exact⟨rfl,λq=>absurd q hf,λ_=>rfl⟩
theorem ag2{p:List bS}(l:ad)(h:kF f p):rl f (gD f p++l)=some (p,l):=by
 unfold rl gD;split
 ·rename_i hf;exact adP l (h.ind hf)
 ·rename_i hf;rw[h.non aa];rfl
theorem G8{p:List bS}(h:kF f p):(gD f p).length<=49:=by
 have:=h.le;unfold gD sG;split
 ·rw[av,nY];omega
 ·simp
def fieldAt(n:Nat)(row:ad)(i:Nat):Nat:=(z8 row (i*n/8)).toNat/2^(8-n-i*n%8)%2^n
def byteOf(n:Nat)(q:Nat->Nat)(k:Nat):Nat:=if n=4 then 16*q (2*k)+q (2*k+1)
 else 128*q (8*k)+64*q (8*k+1)+32*q (8*k+2)+16*q (8*k+3)+8*q (8*k+4)+4*q (8*k+5)+2*q (8*k+6)+q (8*k+7)
theorem Ev(hn:n=1\/n=4){q:Nat->Nat}(hq:∀i,q i<2^n)(k:Nat):byteOf n q k<256:=by
 unfold byteOf;rcases hn with rfl|rfl
 ·have:=hq (8*k);have:=hq (8*k+1);have:=hq (8*k+2);have:=hq (8*k+3);have:=hq (8*k+4);have:=hq (8*k+5);have:=hq (8*k+6);have:=hq (8*k+7);rw[if_neg ag];omega
 ·have:=hq (2*k);have:=hq (2*k+1);rw[if_pos rfl];omega
def j3(n size:Nat)(q:Nat->Nat):ad:=(List.range size).map λk=>UInt8.ofNat (byteOf n q k)
theorem qR(n size:Nat)(q:Nat->Nat):(j3 n size q).length=size:=by simp[j3]
theorem K4{q:Nat->Nat}(hk:k<size):z8 (j3 n size q) k=UInt8.ofNat (byteOf n q k):=by
 simp[z8,j3,eu,pP hk]
theorem Pt(n:Nat)(row:ad)(i:Nat):fieldAt n row i<2^n:=Nat.mod_lt _ (Nat.pow_pos ag)
theorem adJ(hn:n=1\/n=4)(row:ad):j3 n row.length (fieldAt n row)=row:=by
 refine vP λk=>?_;by_cases hk:k<row.length;rotate_left
 ·rw[jk (by rw[qR];omega),jk aa]
 have e:∀l:ad,k<l.length->l[k]?=some (z8 l k):=λl h=>by simp[z8,a8 h]
 rw[e _ (by rw[qR];exact hk),e row hk,K4 hk];congr 1;apply eF.1;have hc:=(z8 row k).toNat_lt;rw[jl];have key:byteOf n (fieldAt n row) k=(z8 row k).toNat:=by
  unfold byteOf fieldAt;rcases hn with rfl|rfl
  ·rw[if_neg ag]
   simp only[Nat.mul_one,show 8*k/8=k by omega,show(8*k+1)/8=k by omega,show(8*k+2)/8=k by omega,show(8*k+3)/8=k by omega,show(8*k+4)/8=k by omega,show(8*k+5)/8=k by omega,show(8*k+6)/8=k by omega,show(8*k+7)/8=k by omega,
    show 8*k%8=0 by omega,show(8*k+1)%8=1 by omega,show(8*k+2)%8=2 by omega,show(8*k+3)%8=3 by omega,show(8*k+4)%8=4 by omega,show(8*k+5)%8=5 by omega,show(8*k+6)%8=6 by omega,show(8*k+7)%8=7 by omega]
   simp only[Nat.reducePow,Nat.reduceSub];omega
  ·rw[if_pos rfl];simp only[show 2*k*4/8=k by omega,show(2*k+1)*4/8=k by omega,show 2*k*4%8=0 by omega,show(2*k+1)*4%8=4 by omega];simp only[Nat.reducePow,Nat.reduceSub];omega
 rw[key];omega
abbrev ED(aH:List bS)(k:Nat):bS:=aH[k]?.getD (0,0,0)
def DO(n:Nat)(aH:List bS)(w:Nat)(row:ad):Prop:=(∀i,i<w->fieldAt n row i<aH.length)/\∀i,i<8*row.length/n->w<=i->fieldAt n row i=0
instance(n:Nat)(aH:List bS)(w:Nat)(row:ad):Decidable (DO n aH w row):=by unfold DO;infer_instance
def nF(n:Nat)(aH:List bS)(row:ad)(i:Nat):bS:=ED aH (fieldAt n row i)
def uq(f:Nat)(aH:List bS)(w:Nat)(row:ad):fx :=
 if f/16=3 then some row else if f/16=2 then some (row.flatMap λc=>[c,c,c])else if DO (bitsOf f) aH w row then some (fY ((List.range w).map (nF (bitsOf f) aH row)))else none
def gY(aH:List bS)(w:Nat)(px:ad)(i:Nat):Nat:=if i<w then ku aH (dJ px i)else 0
def oR(f:Nat)(aH:List bS)(w:Nat)(px:ad):fx :=
 if f/16=3 then some px else if f/16=2 then some ((List.range w).map λi=>z8 px (3*i))else if ∀i,i<w->dJ px i∈aH then some (j3 (bitsOf f) (rowOf f w) (gY aH w px))else none
def zZ(f w:Nat)(px:ad):Prop:=f/16=2->∀i,i<w->z8 px (3*i)=z8 px (3*i+1)/\z8 px (3*i)=z8 px (3*i+2)
instance(f w:Nat)(px:ad):Decidable (zZ f w px):=by unfold zZ;infer_instance
theorem HX(hf:f<64)(h3:f/16≠3)(h2:f/16≠2):(bitsOf f=1\/bitsOf f=4)/\f<32/\pF f=2^bitsOf f:=by
 unfold bitsOf pF;split
 ·exact⟨.inl rfl,aa,by rw[if_neg aa]⟩
 ·split
  ·exact⟨.inr rfl,aa,rfl⟩
  ·omega
theorem PJ(l:ad):(l.flatMap λc=>[c,c,c])=fY ((List.range l.length).map λi=>(z8 l i,z8 l i,z8 l i)):=by
 induction l with
 | nil=>rfl
 | cons c l ih =>
  rw[av,DB,fq,kz,bz,ih];rfl
theorem Wx(p:List bS)(i:Nat)(hi:i<p.length):dJ (fY p) i=p[i]:=by
 have h:=N6 (fY p) p.length (nY p);rw[EE]at h;have:=congrArg (λl=>l[i]?) h;simp only[eu,pP hi,a8 hi,Option.map_some]at this;exact(Option.some.inj this).symm
theorem Ws{aH:List bS}(hf:f<64)(hp:kF f aH){row px:ad}(hl:row.length=rowOf f w)(h:uq f aH w row=some px):px.length=3*w/\zZ f w px/\oR f aH w px=some row:=by
 unfold uq at h;unfold oR;split at h
 ·rename_i h3;cases h;have:bitsOf f=24:=by unfold bitsOf;rw[if_neg aa,if_neg aa,if_neg aa]
  unfold rowOf at hl;rw[this]at hl;refine⟨aa,λq=>by omega,by rw[if_pos h3]⟩
 ·rename_i h3;split at h
  ·rename_i h2;cases h;have:bitsOf f=8:=by unfold bitsOf;rw[if_neg aa,if_neg aa,if_pos h2]
   unfold rowOf at hl;rw[this]at hl;have hw:row.length=w:=aa;rw[PJ];have mZ:∀i,i<w->dJ (fY ((List.range row.length).map λi=>(z8 row i,z8 row i,z8 row i))) i=(z8 row i,z8 row i,z8 row i):=by
    intro i hi;rw[Wx _ i (by simp;omega)];simp
   refine⟨by rw[nY,bu,qX,hw],λ_ i hi=>?_,?_⟩
   ·have:=mZ i hi;simp only[dJ,Prod.mk.injEq]at this;obtain⟨a,b,c⟩:=this;rw[a,b,c];exact⟨rfl,rfl⟩
   ·rw[if_neg h3,if_pos h2];congr 1;refine vP λk=>?_;by_cases hk:k<w
    ·rw[eu,pP hk];have:=mZ k hk;simp only[dJ,Prod.mk.injEq]at this;simp only[Option.map_some];rw[this.1];simp[z8,a8 (show k<row.length by omega)]
    ·rw[jk (by simp;omega),jk aa]
  ·rename_i h2;split at h
   ·rename_i hok;cases h;obtain⟨hn,h32,hm⟩:=HX hf h3 h2;obtain⟨p1,p2,p3⟩:=hp.ind h32;have ca:∀i,i<w->dJ (fY ((List.range w).map (nF (bitsOf f) aH row))) i=nF (bitsOf f) aH row i:=λi hi=>by
     rw[Wx _ i (by simp;omega)];simp
    have cp:∀i,i<w->aH[fieldAt (bitsOf f) row i]?=some (nF (bitsOf f) aH row i):=λi hi=>by
     unfold nF ED;rw[a8 (hok.1 i hi)];rfl
    refine⟨by rw[nY,bu,qX],λq=>absurd q h2,?_⟩;rw[if_neg h3,if_neg h2,if_pos (λi hi=>by rw[ca i hi];exact fH (cp i hi))];congr 1;rw[<-hl];conv=>rhs;rw[<-adJ hn row]
    unfold j3;refine kY λk hk=>?_;have hk:=sN.1 hk;have q:∀i,i<8*row.length/bitsOf f->gY aH w (fY ((List.range w).map (nF (bitsOf f) aH row))) i=fieldAt (bitsOf f) row i:=by
     intro i hi;unfold gY;split
     ·rename_i xM;rw[ca i xM];exact S8 p3 (cp i xM)
     ·rename_i xM;exact(hok.2 i hi aa).symm
    congr 1;unfold byteOf;rcases hn with e|e
    ·rw[e]at q |-;rw[if_neg ag,if_neg ag,q _ aa,q _ aa,q _ aa,q _ aa,q _ aa,q _ aa,q _ aa,q _ aa]
    ·rw[e]at q |-;rw[if_pos rfl,if_pos rfl,q _ aa,q _ aa]
   ·cases h
abbrev acv:ad:=[98,105,116,115]
abbrev acG:ad:=[114,111,119,115,32,117,112,119,97,114,100]
abbrev acE:ad:=[114,117,110,115]
abbrev acx:ad:=[99,111,108,111,114,115]
def Aw(f n:Nat):List oT:=(if bitsOf f=24 then[]else[(acv,(bitsOf f:Int))])++(if f%2=1 then[(acG,1)]else[])++(if f/2%2=1 then[(acE,1)]else[])++(if f<32 then[(acx,(n:Int))]else[])
structure qh where
 wd:Nat
 ht:Nat
 f:Nat
 aH:List bS
 px:ad
def rU(f:Nat):Prop:=f<64/\f%16<4
instance(f:Nat):Decidable (rU f):=by unfold rU;infer_instance
def lW(n:Nat):Prop:=1<=n/\n<=64
instance(f:Nat):Decidable (lW f):=by unfold lW;infer_instance
def turn{α:Type}(f:Nat)(R:List α):List α:=if f%2=1 then R.reverse else R
theorem ahK(f:Nat)(R:List α):turn f (turn f R)=R:=by unfold turn;split<;>simp
theorem MQ(f:Nat)(R:List α):(turn f R).length=R.length:=by unfold turn;split<;>simp
theorem KH{R:List α}{x:α}:x∈turn f R↔x∈R:=by unfold turn;split<;>simp
def uu(f size:Nat)(B:ad):fx:=if f/2%2=1 then oP B size else if B.length=size then some B else none
def yM(f:Nat)(aH:List bS)(w h:Nat)(b:ad):fx:=match allM (uq f aH w) (cX (rowOf f w) h b)with
 | none=>none
 | some R=>some (turn f R).flatten
def AN(f:Nat)(aH:List bS)(w h:Nat)(B:ad):fx:=match uu f (rowOf f w*h) B with
 | none=>none
 | some b=>yM f aH w h b
def K9(f:Nat)(aH:List bS)(w h:Nat):ad->Option qh
 | x::y::B=>if 256*x.toNat+y.toNat=B.length then(match AN f aH w h B with
  | none=>none
  | some px=>some ⟨w,h,f,aH,px⟩)else none
 | _=>none
def Gb(f w h:Nat)(l:ad):Option qh:=if rU f/\lW w/\lW h then(match rl f l with
 | none=>none
 | some (aH,l2)=>K9 f aH w h l2)else none
abbrev jn:ad:=[82,65,83,49]
def oA(b:ad):Option qh:=if b.take 4=jn then(match b.drop 4 with
 | f::w::h::l=>Gb f.toNat w.toNat h.toNat l
 | _=>none)else none
def oB(f:Nat)(aH:List bS):ad:=if f=48 then[]else UInt8.ofNat f::gD f aH
def gk(b:ad):Option (ar×ad):=match oA b with
 | none=>none
 | some x=>if(bI (pL x.wd x.ht x.px)).1≠0 then none else some (pL x.wd x.ht x.px,oB x.f x.aH)
def nE:ad->Option (Nat×List bS)
 | []=>some (48,[])
 | c::l=>if rU c.toNat/\c.toNat≠48 then(match rl c.toNat l with
  | some (p,[])=>some (c.toNat,p)
  | _=>none)else none
structure zn(v w h p:ar):Prop where
 kind:v.kind=4
 names:v.names=[wi,v8,wa]
 wk:w.kind=1
 hk:h.kind=1
 pk:p.kind=2
 w0:1<=w.num/\w.num<=64
 h0:1<=h.num/\h.num<=64
 p0:p.bytes.length=3*w.num.toNat*h.num.toNat
instance(v w h p:ar):Decidable (zn v w h p):=decidable_of_iff (v.kind=4/\v.names=[wi,v8,wa]/\w.kind=1/\h.kind=1/\p.kind=2/\(1<=w.num/\w.num<=64)/\(1<=h.num/\h.num<=64)/\p.bytes.length=3*w.num.toNat*h.num.toNat) ⟨λ⟨a,b,c,d,e,f,g,h⟩=>⟨a,b,c,d,e,f,g,h⟩,λ⟨a,b,c,d,e,f,g,h⟩=>⟨a,b,c,d,e,f,g,h⟩⟩
def lP(v:ar):Option (Nat×Nat×ad):=match v.parts with
 | [w,h,p]=>if zn v w h p then some (w.num.toNat,h.num.toNat,p.bytes)else none
 | _=>none
def yx(f:Nat)(aH:List bS)(w h:Nat)(px:ad):fx:=match allM (oR f aH w) (turn f (cX (3*w) h px))with
 | none=>none
 | some R=>some (if f/2%2=1 then ik R.flatten else R.flatten)
def pK(f:Nat)(aH:List bS)(w h:Nat)(B:ad):ad:=jn++([UInt8.ofNat f,UInt8.ofNat w,UInt8.ofNat h]++(gD f aH++([UInt8.ofNat (B.length/256),UInt8.ofNat B.length]++B)))
def vG(f:Nat)(aH:List bS)(w h:Nat)(px:ad):fx:=match yx f aH w h px with
 | none=>none
 | some B=>some (pK f aH w h B)
noncomputable def mI(v:ar)(b:ad):fx:=match lP v,nE b with
 | some (w,h,px),some (f,aH)=>(match vG f aH w h px with
  | none=>none
  | some o=>if o.length<=1000/\gk o=some (v,b)then some o else none)
 | _,_=>none
def SX(b:ad):Option (List oT):=match nE b with
 | none=>none
 | some (f,aH)=>some (Aw f aH.length)
structure s7(b:ad)(x:qh)(B d:ad)(R:bg):Prop where
 fl:rU x.f
 wd:lW x.wd
 ht:lW x.ht
 aH:kF x.f x.aH
 len:B.length<65536
 eq:b=pK x.f x.aH x.wd x.ht B
 rows:uu x.f (rowOf x.f x.wd*x.ht) B=some d
 pix:allM (uq x.f x.aH x.wd) (cX (rowOf x.f x.wd) x.ht d)=some R
 px:x.px=(turn x.f R).flatten
theorem KT(c:UInt8):UInt8.ofNat c.toNat=c:=A2
theorem La{x:qh}(h:oA b=some x):∃B d R,s7 b x B d R:=by
 unfold oA at h;split at h
 ·rename_i hm;split at h
  ·rename_i f w h' l he;unfold Gb at h;split at h
   ·rename_i hk;obtain⟨k1,k2,k3⟩:=hk;split at h
    ·cases h
    ·rename_i aH l2 hs;unfold K9 at h;split at h
     ·rename_i x1 y1 B;split at h
      ·rename_i hlen;split at h
       ·cases h
       ·rename_i px hp;cases h;unfold AN at hp;split at hp
        ·cases hp
        ·rename_i d hd;unfold yM at hp;split at hp
         ·cases hp
         ·rename_i R hR;cases hp;obtain⟨e1,e2⟩:=G9 hs;have hx:=x1.toNat_lt;have hy:=y1.toNat_lt;refine⟨B,d,R,k1,k2,k3,e2,aa,?_,hd,hR,rfl⟩;have hb:=eN 4 b;rw[hm,he,e1]at hb;have q1:UInt8.ofNat (B.length/256)=x1:=by rw[show B.length/256=x1.toNat by omega,KT]
          have q2:UInt8.ofNat B.length=y1:=by
           apply eF.1;rw[jl];omega
          rw[<-hb];unfold pK;simp only[KT,q1,q2,aL,aA]
      ·cases h
     ·cases h
   ·cases h
  ·cases h
 ·cases h
theorem Uh(h:uu f size B=some d):d.length=size:=by
 unfold uu at h;split at h
 ·exact(VN.1 h).1
 ·split at h
  ·rename_i e;cases h;exact e
  ·cases h
theorem afP(h:uu f size B=some d):B=if f/2%2=1 then ik d else d:=by
 unfold uu at h;by_cases hc:f/2%2=1
 ·rw[if_pos hc]at h |-;exact(VN.1 h).2.symm
 ·rw[if_neg hc]at h |-;split at h
  ·cases h;rfl
  ·cases h
theorem s7.RN{x:qh}(P:s7 b x B d R):d.length=x.ht*rowOf x.f x.wd:=by rw[Uh P.rows,mM]
theorem s7.row{x:qh}(P:s7 b x B d R):R.length=x.ht/\(∀r∈R,r.length=3*x.wd)/\(∀r∈R,zZ x.f x.wd r)/\allM (oR x.f x.aH x.wd) R=some (cX (rowOf x.f x.wd) x.ht d):=by
 obtain⟨h1,h2⟩:=o0 P.pix;rw[lV]at h1;have key:∀(i:Nat) (r:ad),R[i]?=some r->r.length=3*x.wd/\zZ x.f x.wd r/\∃y,(cX (rowOf x.f x.wd) x.ht d)[i]?=some y/\oR x.f x.aH x.wd r=some y:=by
  intro i r hi;obtain⟨hlt,_⟩:=cW.1 hi;have hy:(cX (rowOf x.f x.wd) x.ht d)[i]?=some ((cX (rowOf x.f x.wd) x.ht d)[i]'(by rw[lV];omega)):=a8 _;obtain⟨a,b,c⟩:=Ws P.fl.1 P.aH (yL P.RN (fH hy)) (h2 i _ _ hy hi);exact⟨a,b,_,hy,c⟩
 refine⟨h1,λr hr=>?_,λr hr=>?_,?_⟩
 ·obtain⟨i,hi,rfl⟩:=DD.1 hr;exact(key i _ (a8 hi)).1
 ·obtain⟨i,hi,rfl⟩:=DD.1 hr;exact(key i _ (a8 hi)).2.1
 ·refine zx (by rw[lV,h1]) λi r y hr hy=>?_;obtain⟨_,_,y',Rs,hw⟩:=key i r hr;rw[hy]at Rs;cases Rs;exact hw
theorem s7.Gf{x:qh}(P:s7 b x B d R):x.px.length=x.ht*(3*x.wd)/\cX (3*x.wd) x.ht x.px=turn x.f R:=by
 obtain⟨r1,r2,_⟩:=P.row;have:=zX (s:=3*x.wd) (R:=turn x.f R) λr hr=>r2 r (KH.1 hr);rw[MQ,r1,<-P.px]at this;exact this
theorem s7.write{x:qh}(P:s7 b x B d R):vG x.f x.aH x.wd x.ht x.px=some b:=by
 obtain⟨r1,r2,r3,r4⟩:=P.row;unfold vG yx;rw[P.Gf.2,ahK,r4];simp only;rw[GN P.RN,<-afP P.rows,<-P.eq]
theorem SY{aH:List bS}(h:rU f)(hp:kF f aH):nE (oB f aH)=some (f,aH):=by
 unfold oB;split
 ·rename_i e;subst e;rw[hp.non aa];rfl
 ·rename_i e;have h1:=h.1;have e1:(UInt8.ofNat f).toNat=f:=by rw[jl];omega
  unfold nE;simp only;rw[e1,if_pos ⟨h,e⟩];have:=ag2 [] hp;rw[cm]at this;rw[this]
theorem adX{aH:List bS}(h:nE b=some (f,aH)):b=oB f aH/\rU f/\kF f aH:=by
 cases b with
 | nil =>
  cases h;exact⟨rfl,ag,⟨λq=>by omega,λ_=>rfl⟩⟩
 | cons c l =>
  unfold nE at h;simp only at h;split at h
  ·rename_i hk;split at h
   ·rename_i p hs;cases h;obtain⟨e1,e2⟩:=G9 hs;rw[cm]at e1;refine⟨?_,hk.1,e2⟩;unfold oB;rw[if_neg hk.2,KT,e1]
   ·cases h
  ·cases h
theorem ad1(h1:lW w)(h2:lW h)(h3:b.length=3*w*h):lP (pL w h b)=some (w,h,b):=by
 unfold lP;show(if zn (pL w h b) (.mk 1 w [] [] []) (.mk 1 h [] [] []) (.mk 2 0 b [] [])then _ else _)=_;unfold lW at h1 h2;rw[if_pos]
 ·simp
 ·exact⟨rfl,rfl,rfl,rfl,rfl,by show(1:Int)<=w/\(w:Int)<=64;omega,by show(1:Int)<=h/\(h:Int)<=64;omega,by show b.length=3*(w:Int).toNat*(h:Int).toNat;simpa using h3⟩
theorem ad0(hv:(bI v).1=0)(hs:lP v=some (w,h,b)):v=pL w h b/\lW w/\lW h/\b.length=3*w*h:=by
 unfold lP at hs;split at hs
 ·rename_i r c s hp;split at hs
  ·rename_i k;cases hs;have eK:=k.w0;have dR:=k.h0;obtain⟨_,k2⟩:=Bk hv;have e1:=VV (k2 r (by rw[hp];simp)) k.wk;have e2:=VV (k2 c (by rw[hp];simp)) k.hk;have e3:=VT (k2 s (by rw[hp];simp)) k.pk;obtain⟨n1,n2,n3⟩:=VW hv k.kind;refine⟨ar.ext k.kind n2 n3 k.names ?_,by unfold lW;omega,by unfold lW;omega,k.p0⟩;rw[hp];show[r,c,s]=[.mk 1 (r.num.toNat:Int) [] [] [],.mk 1 (c.num.toNat:Int) [] [] [],.mk 2 0 s.bytes [] []]
   rw[Int.toNat_of_nonneg aa,Int.toNat_of_nonneg aa,<-e1,<-e2,<-e3]
  ·cases hs
 ·cases hs
theorem Lb(h:gk b=some (v,r)):∃x,oA b=some x/\(bI v).1=0/\v=pL x.wd x.ht x.px/\r=oB x.f x.aH:=by
 unfold gk at h;split at h
 ·cases h
 ·rename_i x hx;split at h
  ·cases h
  ·rename_i h0;cases h;exact⟨x,hx,qV.1 h0,rfl,rfl⟩
theorem ad4(hl:b.length<=1000)(h:gk b=some (v,r)):mI v r=some b:=by
 obtain⟨x,hx,hv0,hv,hr⟩:=Lb h;obtain⟨B,d,R,P⟩:=La hx;have hsh:lP v=some (x.wd,x.ht,x.px):=by
  rw[hv];exact ad1 P.wd P.ht (by rw[P.Gf.1];simp[mM,Nat.mul_left_comm])
 unfold mI;rw[hsh,hr,SY P.fl P.aH];simp only;rw[P.write];simp only;rw[if_pos ⟨hl,by rw[<-hr];exact h⟩]
def PY(f w h:Nat)(px:ad):Prop:=∀r∈cX (3*w) h px,zZ f w r
instance(f w h:Nat)(px:ad):Decidable (PY f w h px):=by unfold PY;infer_instance
theorem acr(hf:f<64)(h16:f%16<4):Aw f n=[]↔f=48:=by
 have hb:bitsOf f=24↔f/16=3:=by
  unfold bitsOf;split
  ·omega
  ·split
   ·omega
   ·split<;>omega
 unfold Aw;constructor
 ·intro h;obtain⟨h,h4⟩:=A1.1 h;obtain⟨h,h3⟩:=A1.1 h;obtain⟨h1,h2⟩:=A1.1 h;split at h1
  ·split at h2
   ·cases h2
   ·split at h3
    ·cases h3
    ·have:=hb.1 (by assumption);omega
  ·cases h1
 ·rintro rfl;simp[bitsOf]
theorem acq(f n:Nat):(Aw f n).length<=4:=by
 unfold Aw;simp only[aq];split<;>split<;>split<;>split<;>simp
theorem adZ{aH:List bS}:oB f aH=[]↔f=48:=by
 unfold oB;split
 ·rename_i h;exact⟨λ_=>h,λ_=>rfl⟩
 ·rename_i h;exact⟨λq=>absurd q ai,λq=>absurd q h⟩
theorem adY{aH:List bS}(hp:kF f aH):(oB f aH).length<=50:=by
 have:=G8 hp;unfold oB;split
 ·simp
 ·simp;omega
theorem S4(hl:b.length<=1000)(h:gk b=some (v,r)):VB 1048576 v/\(bI v).1=0/\(lP v).isSome=true/\mI v r=some b/\r.length<=100000000/\∃ls,SX r=some ls/\ls.length<=4/\(ls=[]↔r=[]):=by
 have bW:=ad4 hl h;obtain⟨x,hx,hv0,hv,hr⟩:=Lb h;obtain⟨B,d,R,P⟩:=La hx;obtain⟨w1,w2⟩:=P.wd;obtain⟨h1,h2⟩:=P.ht;have hpx:=P.Gf.1;have hm:x.ht*(3*x.wd)<=64*192:=lU h2 aa;have:=adY P.aH;refine⟨?_,hv0,?_,bW,by rw[hr];omega,Aw x.f x.aH.length,?_,acq _ _,?_⟩
 ·rw[hv];exact Wc (by constructor<;>omega) (by constructor<;>omega) aa
 ·cases hs:lP v with
  | none=>unfold mI at bW;rw[hs]at bW;cases bW
  | some y=>rfl
 ·rw[hr];unfold SX;rw[SY P.fl P.aH]
 ·rw[hr,acr P.fl.1 P.fl.2,adZ]
end Go.Proofs.YtmoiobegbpkkbaaGreatDoor
