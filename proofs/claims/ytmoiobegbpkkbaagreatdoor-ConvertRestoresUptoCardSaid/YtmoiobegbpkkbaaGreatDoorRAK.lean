import Derived.Test.YtmoiobegbpkkbaaGreatDoorRAJ
import Derived.Shelf.Strconv.AtoiAll
import Derived.Shelf.Strconv.Itoa3
import Derived.Lib.AtoiErrMem
import Derived.Lib.AppendIntMem
import Derived.RecoverIn
open Array renaming getD_eq_getD_getElem?->Gu
open List renaming getElem?_map->eu,length_nil->aI,take_append_drop->eN,length_cons->av,take_append->DH,take_of_length_le->bR,cons_append->aL,nil_append->aA,length_append->aq,length_take->bb,length_drop->bd,length_singleton->cQ,drop_left->k7,take_left->pX,flatMap_cons->bz,mem_append->cq,eq_nil_of_length_eq_zero->bL,drop_eq_nil_of_le->Gg,pairwise_iff_getElem->vK,getElem_mem->cj,set_cons_succ->iR,take_succ_eq_append_getElem->bZ,flatMap_append->bT,flatMap_nil->gB,perm_middle->vM,mem_singleton->cv,getElem?_eq_getElem->a8,set_cons_zero->bC,getElem_cons_zero->pU,getElem_take->vQ,takeWhile_append_dropWhile->qY,all_cons->TE
open Nat renaming le_refl->aK,mul_le_mul_right->iD,zero_add->dU,zero_le->cu,min_eq_left->vO,lt_succ_self->yE
open Option renaming map_eq_some_iff->il,map_map->LB
open UInt8 renaming toNat_inj->eF
namespace Go.Proofs.YtmoiobegbpkkbaaGreatDoor
open Go Go.RowKit
set_option maxRecDepth 100000
set_option maxHeartbeats 8000000
variable{w0 w W V V0:ae}{p:Prop}{k n d:Nat}{c:UInt8}{b:Addr}{P:Program}{s s':RS}{v u:ao}{f:mY}{z:List (Int×ad)}{own:bU}{env:Env}{C:Cx}{l:ad}
abbrev dt:=Int×Sl
abbrev jO(x:dt):aD:=[iv x.1,x.2.v]
abbrev ib(V:ae)(x:dt)(y:fL):Prop:=x.1=((y.1:Nat):Int)/\ay V x.2 y.2
theorem ib.up(V V':ae)(x:dt)(y:fL)(hs:Sub V V')(h:ib V x y):ib V' x y:=⟨h.1,h.2.up hs⟩
abbrev eC(rb:Nat)(r o:Sl)(hs:List dt)(s:RS):bU:=[.ax rb [r.v,iv ((s.cnt:Nat):Int),str s.last,o.v] 303,.row o 206 2 (hs.flatMap jO)]
structure lv(N:Nat)(V:ae)(r:Sl)(hs:List dt)(s:RS):Prop where
 rest:ay V r s.rest
 gy:Pw ib V hs s.gy
 cnt:s.cnt+s.rest.length<=N
 ol:s.gy.length<=s.cnt
theorem lv.up{N:Nat}{V V':ae}{r:Sl}{hs:List dt}{s:RS}(h:lv N V r hs s)(k:Sub V V'):lv N V' r hs s:=⟨h.rest.up k,h.gy.up ib.up k,h.cnt,h.ol⟩
structure s8(w0 V0:ae)(rb:Nat)(own:bU)(N:Nat)(V:ae)(s:RS)(E:ae->Prop)(w:ae):Prop where
 ex:∃(V':ae) (r o:Sl) (hs:List dt),Sub V V'/\lv N V' r hs s/\E V'/\Rel w0 V0 (eC rb r o hs s++own) V' w
abbrev Bn:PanicEntry:={ v:=.iface 367 (.agg #[]),recovered:=false }
structure l6(w0:ae)(p:Prop)(ch:List PanicEntry)(w:ae):Prop where
 why:p
 ch:ch=[Bn]
 ext:Ext w0 w
theorem l6.mono{q:Prop}{ch:List PanicEntry}(h:l6 w0 p ch w)(hpq:p->q):l6 w0 q ch w:=⟨hpq h.why,h.ch,h.ext⟩
theorem qP{k:ao->ae->Prop}(hk:k (.iface 367 (.agg #[])) w):bo Tryz.prog (Instr.makeInterface 367 (.agg #[])) w k:=.of aj hk
theorem Et:(λc=>([32,9,13,10]:ad).contains c)=cf:=by
 funext c;simp[cf,List.contains_eq_any_beq,Bool.or_assoc]
def KJ:ad:=[97,98,99,100,101,102,103,104,105,106,107,108,109,110,111,112,113,114,115,116,117,118,119,120,121,122,48,49,50,51,52,53,54,55,56,57,45,95,46]
theorem ada:(λc=>KJ.contains c)=ny:=by
 funext c;have key:∀n:Fin 256,KJ.contains (UInt8.ofNat n.val)=ny (UInt8.ofNat n.val):=ag;have:=key ⟨c.toNat,c.toNat_lt⟩;simpa using this
section
variable{w0 V0 V w:ae}{own:bU}{rb N:Nat}{r o:Sl}{hs:List dt}{s:RS}
theorem UF(H:Rel w0 V0 (eC rb r o hs s++own) V w)(hR:lv N V r hs s)(hN:N<=5000)(e:Bool):aC 245 [.pointer (some ⟨rb,0,none⟩),.bool e] w λq w'=>q=.tuple #[]/\s8 w0 V0 rb own (N+1) V (uy (if e=true then[10]else sZ (af s.last)) s) (λ_=>True) w':=by
 have hlen:=hR.rest.len;have mo:=hR.rest.cap;have kj:=hR.cnt;have gV:=hR.ol;have hoth:=hR.gy.len;obtain⟨n,hn⟩:∃n,n=(s.rest.takeWhile cf).length:=⟨_,rfl⟩
 have Aq:s.rest.length=n+(s.rest.dropWhile cf).length:=by
  conv=>lhs;rw[<-qY (p:=cf) (l:=s.rest)]
  rw[aq,hn]
 have vw:s.rest.take n=s.rest.takeWhile cf:=by
  conv=>lhs;rw[<-qY (p:=cf) (l:=s.rest),hn]
  rw[pX]
 have jS:s.rest.drop n=s.rest.dropWhile cf:=by
  conv=>lhs;rw[<-qY (p:=cf) (l:=s.rest),hn]
  rw[k7]
 obtain⟨want,hw⟩:∃want:ad,want=if e=true then[10]else sZ (af s.last):=⟨_,rfl⟩
 rw[<-hw];have hcut:=hR.rest.tk (k:=n) aa;have Qu:=hR.rest.tk3 (k:=n) aa;rw[vw]at hcut Qu;simp only[eC,aL,aA]at H;refine qo ah Tryz.func245 rfl aj 82 rfl ai [0,1,4,5,18,20,41] ?_;refine aP.dH ah ?_;refine wk ?_;(first|refine dV 0 [9] [0,1,2,3,4,5,6,7,8,9,10,11,12] H ?_|refine dV 7 [17] [0,1,2,3,4,5,6,7,8,9,10,11,12,13,14,15,16,17,18,19,20,21] H ?_);clear H;intro w H;refine wk ?_;refine(D1 H.data hR.rest aa (cs:=[32,9,13,10]) ag ag ag).use ?_;rintro v w⟨⟨t,rfl,ht⟩,K⟩;(replace H:=H.az K);rw[Et]at ht;have htl:=ht.len;refine wk ?_;rw[show(r.len:Int)-t.len=(n:Int)by omega];refine wk ?_;refine aP.dH ah ?_;refine wk ?_;refine aP.oH ah (λ_:Unit=>[(0,.pointer (some ⟨rb,0,none⟩)),(4,iv (n:Int)),(5,str want)]) (λ_ w'=>Rel w0 V0 (.ax rb [r.v,iv ((s.cnt:Nat):Int),str s.last,o.v] 303::.row o 206 2 (hs.flatMap jO)::own) V w') ?_ ?_
 ·cases e with
  | true =>
   obtain rfl:want=[10]:=hw;refine wk ?_;exact⟨(),sB,H⟩
  | false =>
   rw[if_neg ag]at hw;by_cases h1:s.last=[44]
   ·obtain rfl:want=[32]:=by rw[hw,h1];rfl
    rw[h1]at H |-;refine wk ?_;exact⟨(),sB,H⟩
   ·by_cases h2:s.last=[58]
    ·obtain rfl:want=[32]:=by rw[hw,h2];rfl
     rw[h2]at H |-;refine wk ?_;exact⟨(),sB,H⟩
    ·obtain rfl:want=[]:=by
      rw[hw,show af s.last=false by simp[af,h1,h2]];rfl
     refine wk ?_;refine zI (decide_eq_false h1) ?_;refine wk ?_;refine zI (decide_eq_false h2) ?_;refine wk ?_;exact⟨(),sB,H⟩
 clear H;rintro _ w H;refine aP.oH ah (λ_:Unit=>[(0,.pointer (some ⟨rb,0,none⟩)),(4,iv (n:Int))]) (λ_ w'=>∃(o':Sl) (hs':List dt),Pw ib V hs' (if s.rest.takeWhile cf=want then s.gy else s.gy++[(s.cnt,s.rest.takeWhile cf)])/\Rel w0 V0 (.ax rb [r.v,iv ((s.cnt:Nat):Int),str s.last,o'.v] 303::.row o' 206 2 (hs'.flatMap jO)::own) V w') ?_ ?_
 ·refine wk ?_;refine⟨fc _▸(hcut.up H.data).cells,?_⟩;refine wk ?_;refine BV (λhne=>?_) (λheq=>?_)
  ·refine wk ?_;(first|refine dV 0 [9] [0,1,2,3,4,5,6,7,8,9,10,11,12] H ?_|refine dV 7 [17] [0,1,2,3,4,5,6,7,8,9,10,11,12,13,14,15,16,17,18,19,20,21] H ?_);clear H;intro w H;refine wk ?_;refine H.nA ?_;clear H;intro w b59 H;refine wk ?_;refine Rel.dI (f:=jO) (s:=o) (l:=hs) (x:=(((s.cnt:Nat):Int),(⟨aU r.a 0 n 1,n-0,n-0⟩:Sl))) ah rfl rfl rfl rfl rfl ag (λ_=>rfl) (by simp[Value.oneCell']) H (by show(hs.length+1)*32<=_;omega) aa ?_;clear H;intro o' w H;refine H.wg ?_;clear H;intro w H;refine⟨(),sB,o',_,?_,H⟩;rw[if_neg hne];exact hR.gy.snoc ⟨rfl,Qu⟩
  ·refine wk ?_;refine⟨(),sB,o,hs,?_,H⟩;rw[if_pos heq];exact hR.gy
 clear H;rintro _ w⟨o',hs',Co,H⟩;refine aP.go ah ?_;refine H.wg ?_;clear H;intro _ _ w H;have hd:=hR.rest.dr (k:=n) aa;rw[jS]at hd;refine⟨V,_,o',hs',Sub.refl _,⟨hd,Co,?_,?_⟩,trivial,H⟩
 ·show s.cnt+1+(s.rest.dropWhile cf).length<=_;omega
 ·show(if s.rest.takeWhile cf=want then s.gy else s.gy++[(s.cnt,s.rest.takeWhile cf)]).length<=s.cnt+1;split
  ·omega
  ·rw[aq,cQ];omega
theorem Ga(H:Rel w0 V0 (eC rb r o hs s++own) V w)(hR:lv N V r hs s)(hN:N<=5000):cw Tryz.prog 286 [.pointer (some ⟨rb,0,none⟩)].toArray w (λq w'=>(∃c,pk s=some c/\q=bv c)/\Rel w0 V0 (eC rb r o hs s++own) V w') (l6 w0 (pk s=none)):=by
 have hlen:=hR.rest.len;have kj:=hR.cnt;simp only[eC,aL,aA]at H;refine eV Tryz.func286 17 [0,2,3,11] ?_;refine wk ?_;refine(D1 H.data hR.rest aa (cs:=[32,9,13,10]) ag ag ag).use ?_;rintro v w⟨⟨t,rfl,ht⟩,K⟩;(replace H:=H.az K);rw[Et]at ht;have htl:=ht.len;cases hd:s.rest.dropWhile cf with
 | nil =>
  have h0:t.len=0:=by rw[htl,hd];rfl
  refine wk ?_;refine qP ?_;refine wk ?_;exact⟨by unfold pk;rw[hd];rfl,rfl,H.base⟩
 | cons c x =>
  rw[hd]at ht htl;rw[av]at htl;obtain⟨p0,c0⟩:=ht.aX (g:=bv) (λ_=>rfl) (show 0<(c::x).length by simp);rw[pU]at c0;refine wk ?_;exact⟨⟨c,by unfold pk;rw[hd];rfl,rfl⟩,H.sx⟩
theorem G1(H:Rel w0 V0 (eC rb r o hs s++own) V w)(hR:lv N V r hs s)(hN:N<=5000):aC 245 [.pointer (some ⟨rb,0,none⟩),.bool false] w λq w'=>q=.tuple #[]/\s8 w0 V0 rb own (N+1) V (iq s) (λ_=>True) w':=UF H hR hN false
theorem Zm(h:c.toNat<128):Utf8.encode (wr .i32 ((c.toNat:Nat):Int))=⟨[c].toArray⟩:=by
 have key:∀n:Fin 128,Utf8.encode (wr .i32 (((UInt8.ofNat n.val).toNat:Nat):Int))=⟨[UInt8.ofNat n.val].toArray⟩:=by decide +kernel
 have:=key ⟨c.toNat,h⟩;simpa using this
theorem Gc(h:pk s=some c):∃t,s.rest.dropWhile cf=c::t/\t.length+1<=s.rest.length:=by
 unfold pk at h;have Aq:s.rest.length=(s.rest.takeWhile cf).length+(s.rest.dropWhile cf).length:=by
  conv=>lhs;rw[<-qY (p:=cf) (l:=s.rest)]
  rw[aq]
 cases hd:s.rest.dropWhile cf with
 | nil=>rw[hd]at h;cases h
 | cons x t =>
  rw[hd]at h Aq;cases h;rw[av]at Aq;exact⟨t,rfl,aa⟩
theorem UD(H:Rel w0 V0 (eC rb r o hs s++own) V w)(hR:lv N V r hs s)(hN:N<=5000){c:UInt8}(hc:c.toNat<128):cw Tryz.prog 292 [.pointer (some ⟨rb,0,none⟩),bv c].toArray w (λq w'=>q=.tuple #[]/\∃s',lh c s=some s'/\s8 w0 V0 rb own N V s' (λ_=>True) w') (l6 w0 (lh c s=none)):=by
 have kj:=hR.cnt;refine eV Tryz.func292 26 [0,1,7] ?_;refine wk ?_;refine cw.mono (Ga H hR hN) ?_ (λch w' h=>h.mono λh=>by unfold lh;rw[h];rfl);clear H;rintro v w⟨⟨x,hx,rfl⟩,H⟩;refine wk ?_;refine gI (λhne=>?_) (λheq=>?_)
 ·refine wk ?_;refine qP ?_;refine wk ?_;refine⟨?_,rfl,H.base⟩;unfold lh;rw[if_neg];intro h;rw[hx]at h;cases h;exact hne rfl
 ·obtain rfl:x=c:=eF.1 aa;obtain⟨t,ht,htl⟩:=Gc hx;have e:lh x s=some { iq s with last:=[x],rest:=t }:=by unfold lh;rw[if_pos hx,ht];rfl
  refine wk ?_;refine(G1 H hR hN).use ?_;clear H;rintro v w⟨rfl,V1,r1,o1,hs1,hV1,gS,_,H⟩;have hr1:=gS.rest;rw[show(iq s).rest=x::t from ht]at hr1;have vk:=hr1.len;have hc1:=hr1.cap;rw[av]at vk;simp only[eC,aL,aA]at H;refine wk ?_;refine Rel.Im aj aj ?_;rw[Zm hc];refine H.wg ?_;clear H;intro _ w H;refine⟨V1,_,o1,hs1,hV1,⟨hr1.dr (k:=1) ai,gS.gy,?_,gS.ol⟩,trivial,H⟩;show s.cnt+1+t.length<=N;omega
theorem DV(H:Rel w0 V0 (eC rb r o hs s++own) V w)(hR:lv N V r hs s)(hN:N<=6000):cw Tryz.prog 315 [.pointer (some ⟨rb,0,none⟩)].toArray w (λq w'=>∃c t,s.rest=c::t/\q=bv c/\s8 w0 V0 rb own N V { s with rest:=t } (λ_=>True) w') (l6 w0 (s.rest=[])):=by
 have kj:=hR.cnt;have hlen:=hR.rest.len;have mo:=hR.rest.cap;simp only[eC,aL,aA]at H;refine eV Tryz.func315 27 [0,2,3,9] ?_;cases hd:s.rest with
 | nil =>
  have h0:r.len=0:=by rw[hlen,hd];rfl
  refine wk ?_;refine qP ?_;refine wk ?_;exact⟨rfl,rfl,H.base⟩
 | cons c t =>
  have hr:=hR.rest;rw[hd]at hr hlen;rw[av]at hlen;obtain⟨p0,c0⟩:=hr.aX (g:=bv) (λ_=>rfl) (show 0<(c::t).length by simp);rw[pU]at c0;refine H.wg ?_;clear H;intro w H;refine⟨c,t,rfl,rfl,V,_,o,hs,Sub.refl _,⟨hr.dr (k:=1) ai,hR.gy,?_,hR.ol⟩,trivial,H⟩;rw[hd,av]at kj;show s.cnt+t.length<=N;omega
theorem Mx(hV:Sub V W)(c:UInt8):aC 299 [bv c] W λv w'=>v=.bool (oJ c)/\Rel W V [] V w':=by
 have H:=Rel.start hV;have h8:=c.toNat_lt;refine eV Tryz.func299 9 [0,2] ?_;by_cases h1:c.toNat<32
 ·refine wk ?_;exact⟨by simp[oJ,h1],H⟩
 ·refine wk ?_;refine⟨congrArg Value.bool ?_,H⟩;rw[Bool.eq_iff_iff];simp[oJ];omega
abbrev vj:ad:=[48,49,50,51,52,53,54,55,56,57,97,98,99,100,101,102]
theorem QJ(c:UInt8):Lib.indexByte vj c=(match se c with|some n=>((n:Nat):Int)|none => -1):=by
 have key:∀n:Fin 256,Lib.indexByte vj (UInt8.ofNat n.val)=(match se (UInt8.ofNat n.val)with|some n=>((n:Nat):Int)|none => -1):=ag;have:=key ⟨c.toNat,c.toNat_lt⟩;simpa using this
theorem SI{a b:Nat}(ha:a<16)(hb:b<16):wr .u8 (bN BinOp.or .i64 ((16*a:Nat):Int) ((b:Nat):Int))=(((UInt8.ofNat (16*a+b)).toNat:Nat):Int):=by
 have key:∀a b:Fin 16,wr .u8 (bN BinOp.or .i64 ((16*a.val:Nat):Int) ((b.val:Nat):Int))=(((UInt8.ofNat (16*a.val+b.val)).toNat:Nat):Int):=by decide +kernel
 exact key ⟨a,ha⟩ ⟨b,hb⟩
theorem ZE(H:Rel w0 V0 (eC rb r o hs s++own) V w)(hR:lv N V r hs s)(hN:N<=6000):cw Tryz.prog 316 [.pointer (some ⟨rb,0,none⟩)].toArray w (λq w'=>∃d t,zQ s.rest=some (d,t)/\q=bv d/\s8 w0 V0 rb own N V { s with rest:=t } (λ_=>True) w') (l6 w0 (zQ s.rest=none)):=by
 refine eV Tryz.func316 47 [0,2,3,4,5,13,16,39] ?_;refine wk ?_;refine cw.mono (DV H hR hN) ?_ (λch w' h=>h.mono λh=>by rw[h];rfl);clear H;rintro v w⟨c,t,mr,rfl,V1,r1,o1,hs1,hV1,gS,_,H⟩;have CA:=c.toNat_lt;rw[mr,Pq];by_cases h1:c=34\/c=92
 ·rw[if_pos h1];have h1':c.toNat=34\/c.toNat=92:=by rcases h1 with rfl|rfl<;>simp
  rcases h1' with h1'|h1'
  ·refine wk ?_;exact⟨c,t,rfl,rfl,V1,r1,o1,hs1,hV1,gS,trivial,H⟩
  ·refine wk ?_;exact⟨c,t,rfl,rfl,V1,r1,o1,hs1,hV1,gS,trivial,H⟩
 rw[if_neg h1];have PZ:c.toNat≠34:=λe=>h1 (.inl (eF.1 e));have Jc:c.toNat≠92:=λe=>h1 (.inr (eF.1 e));by_cases h2:c=120;rotate_left
 ·rw[if_pos h2];have h2':c.toNat≠120:=λe=>h2 (eF.1 e);refine wk ?_;refine qP ?_;refine wk ?_;exact⟨rfl,rfl,H.base⟩
 rw[if_neg (by simpa using h2)];subst h2;refine wk ?_;refine cw.mono (DV H gS hN) ?_ (λch w' h=>⟨by have h:=h.why;dsimp only at h;rw[h],h.ch,h.ext⟩);clear H;rintro v w⟨x,t1,vu,rfl,V2,r2,o2,dj,hV2,ff,_,H⟩;dsimp only at vu;rw[vu];refine wk ?_;refine(Av vj _ _).use ?_;rintro v w⟨rfl,rfl⟩;refine wk ?_;refine cw.mono (DV H ff hN) ?_ (λch w' h=>⟨by have h:=h.why;dsimp only at h;rw[h],h.ch,h.ext⟩);clear H;rintro v w⟨y,t2,oo,rfl,V3,r3,o3,Ke,aw,xr,_,H⟩;dsimp only at oo;rw[oo];refine wk ?_;refine(Av vj _ _).use ?_;rintro v w⟨rfl,rfl⟩;have ex:(((x.toNat:Nat):Int).toNat).toUInt8=x:=ai;have ey:(((y.toNat:Nat):Int).toNat).toUInt8=y:=ai;rw[ex,ey,QJ,QJ];cases ha:se x with
 | none =>
  refine wk ?_;refine qP ?_;refine wk ?_;exact⟨by simp only[ha],rfl,H.base⟩
 | some a =>
  cases hb:se y with
  | none =>
   refine wk ?_;refine qP ?_;refine wk ?_;exact⟨by simp only[ha,hb],rfl,H.base⟩
  | some b =>
   obtain⟨a1,_⟩:=Fm ha;obtain⟨b1,_⟩:=Fm hb;have e4:((a:Nat):Int)*2^min (Int.toNat 4) IntKind.i64.bits=((16*a:Nat):Int):=by
    have:min (Int.toNat 4) IntKind.i64.bits=4:=ag;rw[this];omega
   dsimp only;refine wk ?_;rw[e4];refine wk ?_;rw[SI a1 b1];refine(Mx H.data (UInt8.ofNat (16*a+b))).use ?_;rintro v w⟨rfl,K⟩;(replace H:=H.az K);cases hsp:oJ (UInt8.ofNat (16*a+b))with
   | false =>
    refine wk ?_;refine qP ?_;refine wk ?_;exact⟨by simp only[ha,hb,hsp];rfl,rfl,H.base⟩
   | true =>
    refine wk ?_;rw[e4];refine wk ?_;rw[SI a1 b1];exact⟨_,t2,by simp only[ha,hb,hsp];rfl,rfl,V3,r3,o3,Ke,(hV1.trans hV2).trans aw,xr,trivial,H⟩
theorem Rel.Ba{a b c:aN}(H:Rel w0 V0 (a::b::c::own) V w):Rel w0 V0 (b::c::a::own) V w:=H.perm ((List.Perm.swap b a _).trans (List.Perm.cons b (List.Perm.swap c a _)))
theorem Rel.MM{a b c:aN}(H:Rel w0 V0 (b::c::a::own) V w):Rel w0 V0 (a::b::c::own) V w:=H.perm ((List.Perm.cons b (List.Perm.swap a c _)).trans (List.Perm.swap a b _))
theorem ahm(H:Rel w0 V0 (eC rb r o hs s++own) V w)(hR:lv N V r hs s)(hN:N<=5000)(hp:pk s=some 34):cw Tryz.prog 287 [.pointer (some ⟨rb,0,none⟩)].toArray w (λq w'=>∃b s' p,uC s=some (b,s')/\q=Sl.v p/\s8 w0 V0 rb own N V s' (λU=>ay U p b) w') (l6 w0 (uC s=none)):=by
 have kj:=hR.cnt;obtain⟨t0,ht0,htl⟩:=Gc hp;refine eV Tryz.func287 29 [0,2,3,4,11,15,20] ?_;refine wk ?_;refine(G1 H hR hN).use ?_;clear H;rintro v w⟨rfl,V1,r1,o1,hs1,hV1,gS,_,H⟩;refine wk ?_;refine cw.mono (DV H gS aa) ?_ (λch w' h=>by
  have:=h.why;rw[show(iq s).rest=34::t0 from ht0]at this;cases this)
 clear H;rintro v w⟨c,t,mr,rfl,V2,r2,o2,dj,hV2,ff,_,H⟩;rw[show(iq s).rest=34::t0 from ht0]at mr;cases mr;obtain⟨s1,Kd⟩:∃s1,s1=iq s:=⟨_,rfl⟩
 rw[<-Kd]at ff H;obtain⟨full,fO⟩:∃full,full=lr ((34::t0).length+1) t0:=⟨_,rfl⟩
 have ve:=hV1.trans hV2;replace H:=(H.cb 5 1).Ba;refine wk ?_;refine aY (S:=Sl×ad) ah [0] (λk=>[(3,k.1.v)]) (λk w'=>∃out V' r o hs n,Sub V V'/\lv (N+1) V' r hs { s1 with rest:=k.2 }/\full=(lr n k.2).map (λp=>(out++p.1,p.2))/\k.2.length<n/\out.length+k.2.length<=t0.length/\Rel w0 V0 (eC rb r o hs { s1 with rest:=k.2 }++(.row k.1 5 1 (out.flatMap aE)::own)) V' w') (λk _=>k.2.length) (⟨none,0,0⟩,t0) ?_;conv=>whnf
 refine⟨sB,⟨[],V2,r2,o2,dj,(34::t0).length+1,ve,ff,?_,?_,?_,H⟩,?_⟩
 ·show full=(lr ((34::t0).length+1) t0).map λp=>([]++p.1,p.2)
  rw[fO];cases lr ((34::t0).length+1) t0<;>rfl
 ·show t0.length<_;rw[av];omega
 ·show 0+t0.length<=t0.length;omega
 clear H;rintro⟨q,x⟩w⟨out,V3,r3,o3,Ke,n,aw,xr,hf,Rr,gV,H⟩;dsimp only at xr hf Rr gV H;have e:uC s=full.map λp=>(p.1,{ s1 with rest:=p.2 }):=by
  unfold uC;rw[ht0,List.tail_cons,<-fO,Kd];cases full<;>rfl
 have KO:lr n x=none->uC s=none:=λh=>by rw[e,hf,h];rfl
 cases n with
 | zero=>omega
 | succ n =>
 refine wk ?_;refine cw.mono (DV H xr aa) ?_ (λch w' h=>h.mono λh=>KO (by dsimp only at h;rw[h];rfl));clear H;rintro v w⟨c,t,mr,rfl,V4,r4,o4,Rf,aG,Ab,_,H⟩;dsimp only at mr Ab H;subst mr;rw[av]at Rr gV;have CA:=c.toNat_lt;by_cases gb:c=34
 ·subst gb;refine wk ?_;replace H:=H.MM;obtain⟨V5,aQ,H,hq⟩:=H.aT (λ_=>rfl) ag;refine⟨out,{ s1 with rest:=t },q,?_,rfl,V5,r4,o4,Rf,(aw.trans aG).trans aQ,?_,hq,H⟩
  ·rw[e,hf,lr,if_pos rfl];simp
  ·refine⟨Ab.rest.up aQ,Ab.gy.up ib.up aQ,?_,Ab.ol⟩;show s1.cnt+t.length<=N;rw[Kd,show(iq s).cnt=s.cnt+1 from rfl];omega
 have aiZ:c.toNat≠34:=λe=>gb (eF.1 e);refine wk ?_;refine(Mx H.data c).use ?_;rintro v w⟨rfl,K⟩;(replace H:=H.az K);cases hsp:oJ c with
 | true =>
  refine wk ?_;refine qP ?_;refine wk ?_;exact⟨KO (by rw[lr,if_neg gb,if_pos hsp]),rfl,H.base⟩
 | false =>
  by_cases xq:c=92
  ·subst xq;refine wk ?_;refine cw.mono (ZE H Ab aa) ?_ (λch w' h=>h.mono λh=>KO (by dsimp only at h;rw[lr,if_neg gb,if_neg (by rw[hsp];decide),if_pos rfl,h]));clear H;rintro v w⟨d,t',hd,rfl,V5,r5,o5,hs5,aQ,Qf,_,H⟩;dsimp only at hd Qf H;have hlt:=(Pr hd).2;refine wk ?_;refine H.nA ?_;clear H;intro w XJ H;refine wk ?_;refine Rel.uN (f:=aE) (s:=q) (l:=out) (x:=d) ah rfl rfl rfl rfl rfl ag (λ_=>rfl) (by simp[Value.oneCell']) H (by show(out.length+1)*1<=_;omega) aa ?_;clear H;intro q' w H;refine wk ?_;refine⟨sB,(q',t'),sB,⟨out++[d],V5,r5,o5,hs5,n,(aw.trans aG).trans aQ,Qf,?_,?_,?_,H⟩,?_⟩
   ·rw[hf,lr,if_neg gb,if_neg (by rw[hsp];decide),if_pos rfl,hd];dsimp only;rw[LB];congr 1;funext p;simp
   ·show t'.length<n;omega
   ·show(out++[d]).length+t'.length<=t0.length;rw[aq,cQ];omega
   ·show t'.length<(92::t).length;rw[av];omega
  ·have ai1:c.toNat≠92:=λe=>xq (eF.1 e);refine wk ?_;refine H.nA ?_;clear H;intro w XJ H;refine wk ?_;refine Rel.uN (f:=aE) (s:=q) (l:=out) (x:=c) ah rfl rfl rfl rfl rfl ag (λ_=>rfl) (by simp[Value.oneCell']) H (by show(out.length+1)*1<=_;omega) aa ?_;clear H;intro q' w H;refine wk ?_;refine⟨sB,(q',t),sB,⟨out++[c],V4,r4,o4,Rf,n,aw.trans aG,Ab,?_,?_,?_,H⟩,?_⟩
   ·rw[hf,lr,if_neg gb,if_neg (by rw[hsp];decide),if_neg xq];rw[LB];congr 1;funext p;simp
   ·show t.length<n;omega
   ·show(out++[c]).length+t.length<=t0.length;rw[aq,cQ];omega
   ·show t.length<(c::t).length;rw[av];omega
theorem ac7(H:Rel w0 V0 (eC rb r o hs s++own) V w)(hR:lv N V r hs s)(hN:N<=5000):cw Tryz.prog 291 [.pointer (some ⟨rb,0,none⟩)].toArray w (λq w'=>∃x s',sE s=some (x,s')/\q=str x/\s8 w0 V0 rb own N V s' (λ_=>True) w') (l6 w0 (sE s=none)):=by
 have kj:=hR.cnt;refine eV Tryz.func291 43 [0,2,3,4,30] ?_;refine wk ?_;refine cw.mono (Ga H hR hN) ?_ (λch w' h=>h.mono λh=>by unfold sE;rw[if_pos h]);clear H;rintro v w⟨⟨c,hc,rfl⟩,H⟩;obtain⟨t0,ht0,htl⟩:=Gc hc;refine wk ?_;refine(G1 H hR hN).use ?_;clear H;rintro v w⟨rfl,V1,r1,o1,hs1,hV1,gS,_,H⟩;have hr1:=gS.rest;rw[show(iq s).rest=s.rest.dropWhile cf from rfl]at hr1;obtain⟨l,hl⟩:∃l,l=s.rest.dropWhile cf:=⟨_,rfl⟩
 rw[<-hl]at hr1;have vk:=hr1.len;have hc1:=hr1.cap;have hll:l.length<=5000:=by rw[hl,ht0,av];omega
 obtain⟨x,hx⟩:∃x,x=l.takeWhile ny:=⟨_,rfl⟩
 have Aq:l.length=x.length+(l.dropWhile ny).length:=by
  conv=>lhs;rw[<-qY (p:=ny) (l:=l)]
  rw[aq,hx]
 have vw:l.take x.length=x:=by
  conv=>lhs;rw[<-qY (p:=ny) (l:=l),<-hx]
  rw[pX]
 have jS:l.drop x.length=l.dropWhile ny:=by
  conv=>lhs;rw[<-qY (p:=ny) (l:=l),<-hx]
  rw[k7]
 have hcut:=hr1.tk (k:=x.length) aa;rw[vw]at hcut;simp only[eC,aL,aA]at H;refine wk ?_;refine dV 3 [9] [0,1,2,3,4,5,6,7,8,9,10,11,12] H ?_;clear H;intro w H;refine wk ?_;refine(D1 H.data hr1 aa (cs:=KJ) ag ag ag).use ?_;rintro v w⟨⟨t,rfl,ht⟩,K⟩;(replace H:=H.az K);rw[ada]at ht;have htl:=ht.len;refine wk ?_;rw[show(r1.len:Int)-t.len=(x.length:Int)by omega];refine wk ?_;refine⟨x,aa,fc _▸(hcut.up H.data).cells,?_⟩;refine wk ?_;refine(Si H.data x).use ?_;rintro v w⟨rfl,K⟩;(replace H:=H.az K);have e:sE s=if gx x=true then some (x,{ iq s with rest:=l.dropWhile ny })else none:=by
  unfold sE;rw[if_neg (by rw[hc];simp),<-hl,<-hx]
 cases jc:gx x with
 | false =>
  rw[jc,if_neg ag]at e;refine wk ?_;refine qP ?_;refine wk ?_;exact⟨e,rfl,H.base⟩
 | true =>
  rw[jc,if_pos rfl]at e;have hd:=hr1.dr (k:=x.length) aa;rw[jS]at hd;have cY:1<=x.length:=by
   obtain⟨c,y,hy,_⟩:=Dj jc;rw[hy,av];omega
  have tN:l.length=t0.length+1:=by rw[hl,ht0,av]
  refine H.wg ?_;clear H;intro w H;refine⟨x,_,e,rfl,V1,_,o1,hs1,hV1,⟨hd,gS.gy,?_,gS.ol⟩,trivial,H⟩;show s.cnt+1+(l.dropWhile ny).length<=N;omega
end
section
open Go Go.RowKit Go.Shelf
def DM:Shelf.Ren:=⟨λx=>if x=129 then 368 else if x=171 then 251 else if x=172 then 318 else if x=205 then 377 else if x=243 then 298 else if x=244 then 344 else if x=245 then 345 else if x=246 then 321 else if x=247 then 362 else if x=279 then 363 else if x=280 then 364 else if x=281 then 365 else if x=282 then 366 else if x=283 then 346 else if x=284 then 347 else if x=285 then 348 else if x=286 then 349 else if x=287 then 375 else if x=316 then 376 else if x=317 then 367 else if x=318 then 369 else if x=319 then 370 else if x=320 then 371 else if x=321 then 380 else if x=322 then 381 else if x=337 then 378 else if x=338 then 379 else x,λx=>if x=0 then 0 else if x=2 then 2 else if x=3 then 3 else if x=4 then 4 else if x=5 then 5 else if x=9 then 9 else if x=20 then 20 else if x=21 then 21 else if x=37 then 22 else if x=46 then 132 else if x=51 then 321 else if x=53 then 218 else if x=75 then 369 else if x=76 then 370 else if x=80 then 344 else if x=85 then 401 else if x=127 then 420 else if x=143 then 421 else if x=145 then 423 else if x=167 then 400 else if x=168 then 403 else if x=171 then 383 else if x=173 then 386 else if x=175 then 412 else if x=210 then 416 else if x=212 then 407 else if x=213 then 408 else if x=232 then 424 else if x=233 then 425 else x,λx=>if x=15 then 4 else if x=16 then 5 else if x=17 then 3 else if x=18 then 6 else if x=19 then 7 else x⟩
theorem FE:LaysC.n172 Tryz.prog DM where
 mixed:=aj
 f129:=Tryz.func368.trans (congrArg some aj)
 f171:=Tryz.func251.trans (congrArg some aj)
 f172:=Tryz.func318.trans (congrArg some aj)
 f205:=Tryz.func377.trans (congrArg some aj)
 f243:=Tryz.func298.trans (congrArg some aj)
 f244:=Tryz.func344.trans (congrArg some aj)
 f245:=Tryz.func345.trans (congrArg some aj)
 f246:=Tryz.func321.trans (congrArg some aj)
 f247:=Tryz.func362.trans (congrArg some aj)
 f279:=Tryz.func363.trans (congrArg some aj)
 f280:=Tryz.func364.trans (congrArg some aj)
 f281:=Tryz.func365.trans (congrArg some aj)
 f282:=Tryz.func366.trans (congrArg some aj)
 f283:=Tryz.func346.trans (congrArg some aj)
 f284:=Tryz.func347.trans (congrArg some aj)
 f285:=Tryz.func348.trans (congrArg some aj)
 f286:=Tryz.func349.trans (congrArg some aj)
 f287:=Tryz.func375.trans (congrArg some aj)
 f316:=Tryz.func376.trans (congrArg some aj)
 f317:=Tryz.func367.trans (congrArg some aj)
 f318:=Tryz.func369.trans (congrArg some aj)
 f319:=Tryz.func370.trans (congrArg some aj)
 f320:=Tryz.func371.trans (congrArg some aj)
 f321:=Tryz.func380.trans (congrArg some aj)
 f322:=Tryz.func381.trans (congrArg some aj)
 f337:=Tryz.func378.trans (congrArg some aj)
 f338:=Tryz.func379.trans (congrArg some aj)
 t0:=Tryz.underlying0
 a0:=Tryz.isAgg0
 z0:=Tryz.sizeOf0
 v0:=Tryz.zeroValue0
 t2:=Tryz.underlying2
 a2:=Tryz.isAgg2
 z2:=Tryz.sizeOf2
 v2:=Tryz.zeroValue2
 t3:=Tryz.underlying3
 a3:=Tryz.isAgg3
 z3:=Tryz.sizeOf3
 v3:=Tryz.zeroValue3
 t4:=Tryz.underlying4
 a4:=Tryz.isAgg4
 z4:=Tryz.sizeOf4
 v4:=Tryz.zeroValue4
 t5:=Tryz.underlying5
 a5:=Tryz.isAgg5
 z5:=Tryz.sizeOf5
 v5:=Tryz.zeroValue5
 t9:=Tryz.underlying9
 a9:=Tryz.isAgg9
 z9:=Tryz.sizeOf9
 v9:=Tryz.zeroValue9
 t20:=Tryz.underlying20
 a20:=Tryz.isAgg20
 z20:=Tryz.sizeOf20
 v20:=Tryz.zeroValue20
 t21:=Tryz.underlying21
 a21:=Tryz.isAgg21
 z21:=Tryz.sizeOf21
 v21:=Tryz.zeroValue21
 t37:=Tryz.underlying22
 a37:=Tryz.isAgg22
 z37:=Tryz.sizeOf22
 v37:=Tryz.zeroValue22
 t46:=Tryz.underlying132
 a46:=Tryz.isAgg132
 z46:=Tryz.sizeOf132
 v46:=Tryz.zeroValue132
 t51:=Tryz.underlying321
 a51:=Tryz.isAgg321
 z51:=Tryz.sizeOf321
 v51:=Tryz.zeroValue321
 t53:=Tryz.underlying218
 a53:=Tryz.isAgg218
 z53:=Tryz.sizeOf218
 v53:=Tryz.zeroValue218
 t75:=Tryz.underlying369
 a75:=Tryz.isAgg369
 z75:=Tryz.sizeOf369
 v75:=Tryz.zeroValue369
 t76:=Tryz.underlying370
 a76:=Tryz.isAgg370
 z76:=Tryz.sizeOf370
 v76:=Tryz.zeroValue370
 t85:=Tryz.underlying401
 a85:=Tryz.isAgg401
 z85:=Tryz.sizeOf401
 v85:=Tryz.zeroValue401
 t127:=Tryz.underlying420
 a127:=Tryz.isAgg420
 z127:=Tryz.sizeOf420
 v127:=Tryz.zeroValue420
 t143:=Tryz.underlying421
 a143:=Tryz.isAgg421
 z143:=Tryz.sizeOf421
 v143:=Tryz.zeroValue421
 t145:=Tryz.underlying423
 a145:=Tryz.isAgg423
 z145:=Tryz.sizeOf423
 v145:=Tryz.zeroValue423
 t167:=Tryz.underlying400
 a167:=Tryz.isAgg400
 z167:=Tryz.sizeOf400
 v167:=Tryz.zeroValue400
 t168:=Tryz.underlying403
 a168:=Tryz.isAgg403
 z168:=Tryz.sizeOf403
 v168:=Tryz.zeroValue403
 t171:=Tryz.underlying383
 a171:=Tryz.isAgg383
 z171:=Tryz.sizeOf383
 v171:=Tryz.zeroValue383
 t173:=Tryz.underlying386
 a173:=Tryz.isAgg386
 z173:=Tryz.sizeOf386
 v173:=Tryz.zeroValue386
 t175:=Tryz.underlying412
 a175:=Tryz.isAgg412
 z175:=Tryz.sizeOf412
 v175:=Tryz.zeroValue412
 t210:=Tryz.underlying416
 a210:=Tryz.isAgg416
 z210:=Tryz.sizeOf416
 v210:=Tryz.zeroValue416
 t212:=Tryz.underlying407
 a212:=Tryz.isAgg407
 z212:=Tryz.sizeOf407
 v212:=Tryz.zeroValue407
 t213:=Tryz.underlying408
 a213:=Tryz.isAgg408
 z213:=Tryz.sizeOf408
 t232:=Tryz.underlying424
 a232:=Tryz.isAgg424
 z232:=Tryz.sizeOf424
 v232:=Tryz.zeroValue424
 t233:=Tryz.underlying425
 a233:=Tryz.isAgg425
 z233:=Tryz.sizeOf425
 v233:=Tryz.zeroValue425
 g15:=aj
 g16:=aj
 g17:=aj
 g18:=aj
 g19:=aj
 t80:=Tryz.underlying344
 a80:=Tryz.isAgg344
 z80:=Tryz.sizeOf344
 v80:=Tryz.zeroValue344
 i0:=aj
 i2:=aj
 i3:=aj
 i4:=aj
 i5:=aj
 i9:=aj
 i20:=aj
 i21:=aj
 i37:=aj
 i46:=aj
 i51:=aj
 i53:=aj
 i75:=aj
 i76:=aj
 i80:=aj
 i85:=aj
 i127:=aj
 i143:=aj
 i145:=aj
 i167:=aj
 i168:=aj
 i171:=aj
 i173:=aj
 i175:=aj
 i210:=aj
 i212:=aj
 i232:=aj
 i233:=aj
 m15:=aj
 m16:=aj
 m17:=aj
 m18:=aj
 m19:=aj
 c0:=aj
 c2:=aj
 c3:=aj
 c4:=aj
 c5:=aj
 c9:=aj
 c20:=aj
 c21:=aj
 c37:=aj
 c46:=aj
 c51:=aj
 c53:=aj
 c75:=aj
 c76:=aj
 c80:=aj
 c85:=aj
 c127:=aj
 c143:=aj
 c145:=aj
 c167:=aj
 c168:=aj
 c171:=aj
 c173:=aj
 c175:=aj
 c210:=aj
 c212:=aj
 c213:=aj
 c232:=aj
 c233:=aj
structure mW(V:ae):Prop where
 pow:Lib.TabIs Tryz.prog V "internal/strconv.uint64pow10" .u64 Lib.pow10Tab
 es:∃t p,V.cell? ⟨4,0,none⟩=some (.iface t p)
 er:∃t p,V.cell? ⟨5,0,none⟩=some (.iface t p)
theorem UU{n:String}{k:IntKind}{zs:List Int}(h:Lib.TabIs P V n k zs)(hs:Sub V W):Lib.TabIs P W n k zs:=by
 unfold Lib.TabIs World.var? at *;cases hg:P.globalNamed n with
 | none=>rw[hg]at h;cases h
 | some g =>
  rw[hg]at h;simp only[Option.bind_some]at h |-;split at h
  ·rename_i cs t f hc;rw[hs.bE _ _ _ _ hc];exact h
  ·cases h
theorem mW.up(h:mW V)(k:Sub V W):mW W:=⟨UU h.pow k,let⟨t,p,h⟩:=h.es;⟨t,p,k.cell h⟩,let⟨t,p,h⟩:=h.er;⟨t,p,k.cell h⟩⟩
theorem RG(hV:Sub V W)(hE:mW V){n:Int}(hn:dx n):aC 251 [iv n] W λq w'=>q=str (Lib.itoa n)/\Rel W V [] V w':=by
 have h:=Any.strconv_Itoa (ρ:=DM) { FE with } n hn.1 hn.2 W (UU hE.pow hV);exact eD.sF Tryz.func251 aj aj (Calls.lM h λe w' ⟨he,k,os,hw⟩=>⟨_,he,rfl,by rw[hw];exact(Rel.start hV).ext (Lib.below_grow _ _ (aK _) _ _)⟩)
inductive HE(s:ad):ao->Prop where
 | ok {v:Int} (h:Lib.atoiAll s=.ok v):HE s (.tuple #[iv v,.nilIface])
 | err {a:Int} {t:TypeId} {p:ao} (h:∀v,Lib.atoiAll s≠.ok v):HE s (.tuple #[iv a,.iface t p])
theorem XE(hV:Sub V W)(hE:mW V){s:ad}(hs:s.length<=100000):aC 318 [str s] W λq w'=>HE s q/\Rel W V [] V w':=by
 have hsz:(⟨s.toArray⟩:ByteArray).size=s.length:=rfl;have hl:(⟨s.toArray⟩:ByteArray).data.toList=s:=rfl;rcases ha:Lib.atoiAll s with v|_|_
 ·have h:=Any.strconv_Atoi_ok (ρ:=DM) FE ⟨s.toArray⟩ aa v (by rw[hl];exact ha) W;refine eD.sF Tryz.func318 aj aj (Calls.lM h λe w' ⟨he,hw⟩=>⟨_,he,.ok ha,?_⟩);rcases hw with rfl|⟨t,rfl⟩
  ·exact Rel.start hV
  ·exact(Rel.start hV).ext (Lib.bytesWorld_below _ _ _)
 ·obtain⟨t,p,hp⟩:=hE.es;have h:=Any.strconv_Atoi_syntax (ρ:=DM) FE ⟨s.toArray⟩ aa (by rw[hl];exact ha) _ W (hV.cell hp) (.inr ⟨t,p,rfl⟩);exact eD.sF Tryz.func318 aj aj (Calls.lM h λe w' ⟨N,he,_,_,hw⟩=>⟨_,he,.err (λv h=>by rw[ha]at h;cases h),(Rel.start hV).ext hw⟩)
 ·obtain⟨t,p,hp⟩:=hE.er;have h:=Any.strconv_Atoi_range (ρ:=DM) FE ⟨s.toArray⟩ aa (by rw[hl];exact ha) _ W (hV.cell hp) (.inr ⟨t,p,rfl⟩);exact eD.sF Tryz.func318 aj aj (Calls.lM h λe w' ⟨N,he,_,_,hw⟩=>⟨_,he,.err (λv h=>by rw[ha]at h;cases h),(Rel.start hV).ext hw⟩)
section
variable{w0 V0 V w:ae}{own:bU}{rb N:Nat}{r o:Sl}{hs:List dt}{s:RS}
theorem Sx{t0:ad}{i0:Nat}(hi:c=45/\i0=1\/c≠45/\i0=0)(h0:i0<=k)(hk:k<=(c::t0).length)(hd:∀x∈((c::t0).take k).drop i0,kp x=true)(he:∀x y,(c::t0).drop k=x::y->kp x=false):vC (c::t0)=(c::t0).take k:=by
 rw[Sv];rcases hi with⟨rfl,rfl⟩|⟨hc,rfl⟩
 ·rw[if_pos rfl];obtain⟨k,rfl⟩:∃j,k=j+1:=⟨k-1,aa⟩
  rw[List.take_succ_cons]at hd |-;rw[List.drop_succ_cons]at he;congr 1;conv=>lhs;rw[<-eN k t0]
  exact(Hc (λx hx=>hd x (by simpa using hx)) he).1
 ·rw[if_neg hc];conv=>lhs;rw[<-eN k (c::t0)]
  exact(Hc (λx hx=>hd x (by simpa using hx)) he).1
theorem adp(hE:mW V)(H:Rel w0 V0 (eC rb r o hs s++own) V w)(hR:lv N V r hs s)(hN:N<=5000){c:UInt8}(hc:pk s=some c):cw Tryz.prog 293 [.pointer (some ⟨rb,0,none⟩)].toArray w (λq w'=>∃v s',vB s=some (v,s')/\q=iv v/\s8 w0 V0 rb own N V s' (λ_=>True) w') (l6 w0 (vB s=none)):=by
 have kj:=hR.cnt;obtain⟨t0,ht0,htl⟩:=Gc hc;obtain⟨l,hl⟩:∃l,l=c::t0:=⟨_,rfl⟩
 have hll:l.length=t0.length+1:=by rw[hl];rfl
 have CA:=c.toNat_lt;obtain⟨i0,py,lF⟩:∃i0:Nat,i0<=1/\(c=45/\i0=1\/c≠45/\i0=0):=by
  by_cases h:c=45
  ·exact⟨1,aa,.inl ⟨h,rfl⟩⟩
  ·exact⟨0,aa,.inr ⟨h,rfl⟩⟩
 refine qo ah Tryz.func293 rfl aj 79 rfl ai [0,2,3,4,5,6,15,44,66] ?_;refine aP.dH ah ?_;refine wk ?_;refine aP.dH ah ?_;refine wk ?_;refine(G1 H hR hN).use ?_;clear H;rintro v w⟨rfl,V1,r1,o1,hs1,hV1,gS,_,H⟩;have hr1:=gS.rest;rw[show(iq s).rest=s.rest.dropWhile cf from rfl,ht0,<-hl]at hr1;have vk:=hr1.len;have hc1:=hr1.cap;obtain⟨p0,c0⟩:=hr1.aX (g:=bv) (λ_=>rfl) (show 0<l.length by omega);have tN:l[0]'(by omega)=c:=by simp[hl]
 rw[tN]at c0;simp only[eC,aL,aA]at H;refine wk ?_;refine aP.dH ah ?_;refine wk ?_;refine aP.oH ah (λ_:Unit=>[(0,.pointer (some ⟨rb,0,none⟩)),(3,iv (i0:Int))]) (λ_ w'=>Rel w0 V0 (.ax rb [r1.v,iv (((iq s).cnt:Nat):Int),str (iq s).last,o1.v] 303::.row o1 206 2 (hs1.flatMap jO)::own) V1 w') ?_ ?_
 ·rcases lF with⟨h1,rfl⟩|⟨h1,rfl⟩
  ·have:c.toNat=45:=by rw[h1];rfl
   refine wk ?_;exact⟨(),sB,H⟩
  ·have:c.toNat≠45:=λe=>h1 (eF.1 e);refine wk ?_;exact⟨(),sB,H⟩
 clear H;rintro _ w H;refine aP.oH ah (λk:Nat=>[(0,.pointer (some ⟨rb,0,none⟩)),(3,iv (k:Int))]) (λk w'=>(k<=l.length/\vC l=l.take k)/\Rel w0 V0 (.ax rb [r1.v,iv (((iq s).cnt:Nat):Int),str (iq s).last,o1.v] 303::.row o1 206 2 (hs1.flatMap jO)::own) V1 w') ?_ ?_
 ·refine wk ?_;refine aP.cut 0 (λk:Nat=>[(0,.pointer (some ⟨rb,0,none⟩)),(3,iv (k:Int))]) (λk w'=>(k<=l.length/\vC l=l.take k)/\Rel w0 V0 (.ax rb [r1.v,iv (((iq s).cnt:Nat):Int),str (iq s).last,o1.v] 303::.row o1 206 2 (hs1.flatMap jO)::own) V1 w') ?_ ?_
  ·refine aY (S:=Nat) ah [0,2,4,5,6,15,66] (λk=>[(3,iv (k:Int))]) (λk w'=>(i0<=k/\k<=l.length/\∀x∈(l.take k).drop i0,kp x=true)/\Rel w0 V0 (.ax rb [r1.v,iv (((iq s).cnt:Nat):Int),str (iq s).last,o1.v] 303::.row o1 206 2 (hs1.flatMap jO)::own) V1 w') (λk _=>l.length-k) i0 ?_;conv=>whnf
   refine⟨sB,⟨⟨aK _,aa,λx hx=>by rw[Gg (by simp;omega)]at hx;simp at hx⟩,H⟩,?_⟩;clear H;rintro k w⟨⟨h0,hk,hd⟩,H⟩;by_cases hlt:k<l.length;rotate_left
   ·refine wk ?_;refine⟨k,sB,⟨hk,?_⟩,H⟩;rw[hl];rw[hl]at hd hlt;exact Sx lF h0 (by rw[<-hl];exact hk) hd λx y h=>by
     rw[Gg aa]at h;cases h
   ·obtain⟨p1,c1⟩:=hr1.aX (g:=bv) (λ_=>rfl) hlt;obtain⟨x,hx⟩:∃x,x=l[k]:=⟨_,rfl⟩
    rw[<-hx]at c1;have C3:=x.toNat_lt;by_cases iA:48<=x.toNat/\x.toNat<=57
    ·refine wk ?_;refine⟨sB,k+1,sB,⟨⟨aa,aa,λy hy=>?_⟩,H⟩,aa⟩;rw[bZ hlt,<-hx,List.drop_append_of_le_length (by simp;omega)]at hy;rcases cq.1 hy with hy|hy
     ·exact hd y hy
     ·simp only[cv]at hy;rw[hy];simp[kp,iA]
    ·have stop:vC l=l.take k:=by
      have hxl:∀z y,l.drop k=z::y->kp z=false:=λz y h=>by
       rw[List.drop_eq_getElem_cons hlt]at h;cases h;rw[<-hx];simp only[kp,Bool.and_eq_false_iff,decide_eq_false_iff_not];omega
      rw[hl]at hd hxl hk |-;exact Sx lF h0 hk hd hxl
     by_cases JS:48<=x.toNat
     ·refine wk ?_;exact⟨k,sB,⟨hk,stop⟩,H⟩
     ·refine wk ?_;exact⟨k,sB,⟨hk,stop⟩,H⟩
  ·clear H;rintro k w⟨hk,H⟩;refine wk ?_;exact⟨k,sB,hk,H⟩
 clear H;rintro k w⟨⟨hk,CO⟩,H⟩;have hcut:=hr1.tk (k:=k) hk;refine aP.dH ah ?_;refine wk ?_;refine⟨l.take k,by rw[bb,Int.toNat_natCast];omega,fc _▸(hcut.up H.data).cells,?_⟩;refine wk ?_;have e:vB s=match rC (l.take k)with
  | none=>none
  | some v=>some (v,{ iq s with rest:=l.drop k }):=by
  unfold vB
  rw[ht0,<-hl,CO]
  cases rC (l.take k)with
  | none=>rfl
  | some v =>
   dsimp only
   rw[bb,vO hk]
 refine aP.dH ah ?_;refine wk ?_;refine(XE H.data (hE.up hV1) (s:=l.take k) (by rw[bb];omega)).use ?_;rintro v w⟨hat,K⟩;(replace H:=H.az K);cases hat with
 | @err a t p hno =>
  have hn:rC (l.take k)=none:=by
   unfold rC;split
   ·rename_i v hv;exact absurd hv (hno v)
   ·rfl
  rw[hn]at e;refine wk ?_;refine aP.dH ah ?_;refine wk ?_;refine qP ?_;refine wk ?_;exact⟨e,rfl,H.base⟩
 | @ok z hz =>
  refine wk ?_;refine aP.dH ah ?_;refine wk ?_;refine(RG H.data (hE.up hV1) (Lib.atoiAll_bounds hz)).use ?_;rintro v w⟨rfl,K⟩;(replace H:=H.az K);by_cases hit:Lib.itoa z=l.take k
  ·have hn:rC (l.take k)=some z:=by
    unfold rC;rw[hz];simp only;rw[if_pos hit]
   rw[hn]at e;have hd:=hr1.dr (k:=k) hk;have dW:1<=k:=by
    rcases Nat.eq_zero_or_pos k with h|h
    ·exfalso;rw[h,List.take_zero]at hit;obtain⟨c,r,hc,_⟩:=FD z;rw[hc]at hit;cases hit
    ·exact h
   refine wk ?_;refine zI (by rw[decide_eq_true hit];rfl) ?_;refine wk ?_;refine aP.dH ah ?_;refine H.wg ?_;clear H;intro w H;refine aP.dH ah ?_;refine wk ?_;refine aP.go ah ?_;refine wk ?_;refine⟨z,_,e,rfl,V1,_,o1,hs1,hV1,⟨hd,gS.gy,?_,gS.ol⟩,trivial,H⟩;show s.cnt+1+(l.drop k).length<=N;rw[bd];omega
  ·have hn:rC (l.take k)=none:=by
    unfold rC;rw[hz];simp only;rw[if_neg hit]
   rw[hn]at e;refine wk ?_;refine YB (by rw[decide_eq_false hit];rfl) ?_;refine wk ?_;refine qP ?_;refine wk ?_;exact⟨e,rfl,H.base⟩
end
end
theorem fW.lt{L:BL}{v:ar}(h:fW s L s')(hL:L.map Prod.snd=fm v)(hv:fX v):s'.rest.length<s.rest.length:=by
 have h1:=congrArg List.length h.rest;have h2:=PF L;have h3:=RM hv;rw[hL]at h2;rw[aq]at h1;omega
theorem G0(h:lh c s=some s'):s'.rest.length<s.rest.length:=by
 have h1:=congrArg List.length (DR h).rest;simp only[jx,bz,gB,aq,av,aI]at h1;omega
theorem Sm{x:ad}(h:sE s=some (x,s')):s'.rest.length<s.rest.length:=by
 obtain⟨h0,hx⟩:=Sn h;have h1:=congrArg List.length h0.rest;obtain⟨c,r,hc,_⟩:=Dj hx;simp only[jx,bz,gB,aq,aI,hc,av]at h1;omega
theorem O8(hf:wK f){k:Int}{x y:EL}(h:jb f k x=some y):y.2.1.length=x.2.1.length+1/\y.2.2.rest.length<x.2.2.rest.length/\y.1.length<=x.1.length+1:=by
 have key:∀ns ps s,nZ f ns ps s=some y->y.2.1.length=ps.length+1/\y.2.2.rest.length<s.rest.length/\y.1=ns:=by
  intro ns ps s h;unfold nZ at h;split at h
  ·cases h
  ·rename_i v s' hv;cases h;obtain⟨L,h1,h2,h3⟩:=hf _ _ _ hv;exact⟨ai,h1.lt h2 h3,rfl⟩
 unfold jb at h;split at h
 ·split at h
  ·cases h
  ·rename_i nm s1 h1;split at h
   ·cases h
   ·rename_i s2 h2;obtain⟨a,b,c⟩:=key _ _ _ h;have:=Sm h1;have:=G0 h2;refine⟨a,aa,by rw[c];simp⟩
 ·obtain⟨a,b,c⟩:=key _ _ _ h;exact⟨a,b,by rw[c];omega⟩
abbrev uM(vb:Nat)(k:Int)(ns ps:Sl)(nms:bg)(vh:List VH):bU:=[.ax vb [iv k,iv 0,.slice none 0 0,ns.v,ps.v] 27,.row ns 9 1 (nms.flatMap p7),.row ps 27 5 (vh.flatMap cr)]
structure nU(w0 V0:ae)(rb vb:Nat)(k:Int)(own:bU)(N:Nat)(V:ae)(x:EL)(w:ae):Prop where
 ex:∃(V':ae) (r o:Sl) (hs:List dt) (ns ps:Sl) (vh:List VH),Sub V V'/\lv N V' r hs x.2.2/\Pw bV V' vh x.2.1/\Rel w0 V0 (eC rb r o hs x.2.2++(uM vb k ns ps x.1 vh++own)) V' w
theorem rG(V V':ae)(x:VH)(y:ar)(hs:Sub V V')(h:bV V x y):bV V' x y:=h.up hs
section
variable{w0 V0 V w:ae}{own:bU}{rb vb N:Nat}{k:Int}{x:EL}
theorem nU.SW(h:nU w0 V0 rb vb k own N V x w)(hN:N<=5000):cw Tryz.prog 286 [.pointer (some ⟨rb,0,none⟩)].toArray w (λq w'=>(∃c,pk x.2.2=some c/\q=bv c)/\nU w0 V0 rb vb k own N V x w') (l6 w0 (pk x.2.2=none)):=by
 obtain⟨V',r,o,hs,ns,ps,vh,h1,h2,h3,H⟩:=h;exact cw.mono (Ga H h2 hN) (λq w' ⟨h4,H⟩=>⟨h4,V',r,o,hs,ns,ps,vh,h1,h2,h3,H⟩) (λch w' h=>h)
theorem nU.sign(h:nU w0 V0 rb vb k own N V x w)(hN:N<=5000){c:UInt8}(hc:c.toNat<128):cw Tryz.prog 292 [.pointer (some ⟨rb,0,none⟩),bv c].toArray w (λq w'=>q=.tuple #[]/\∃s',lh c x.2.2=some s'/\nU w0 V0 rb vb k own N V (x.1,x.2.1,s') w') (l6 w0 (lh c x.2.2=none)):=by
 obtain⟨V',r,o,hs,ns,ps,vh,h1,h2,h3,H⟩:=h;refine cw.mono (UD H h2 hN hc) (λq w' ⟨hq,s',hs',V2,r2,o2,dj,hV2,ff,_,H⟩=>⟨hq,s',hs',V2,r2,o2,dj,ns,ps,vh,h1.trans hV2,ff,h3.up rG hV2,H⟩) (λch w' h=>h)
def HH(w0 V0:ae)(rb vb:Nat)(k:Int)(own:bU)(N:Nat)(g:FuncId)(cap:aD)(f:mY)(n:Nat)(U:ae):Prop :=
 ∀(V w:ae) (x:EL),Sub U V->nU w0 V0 rb vb k own N V x w->x.2.2.rest.length<n->x.2.1.length+x.2.2.rest.length<=5000->x.1.length<=x.2.1.length ->
  cw Tryz.prog g cap.toArray w (λq w'=>q=.tuple #[]/\∃y,jb f k x=some y/\nU w0 V0 rb vb k own N V y w') (l6 w0 (jb f k x=none))
theorem RU{g:FuncId}{cap:aD}{U:ae}(hf:wK f)(hel:HH w0 V0 rb vb k own N g cap f n U)(hU:Sub U V)(hS:nU w0 V0 rb vb k own N V ([],[],s) w)(hn:s.rest.length<n+1)(hl:s.rest.length<=5000)(hN:N<=5000)
  {op en:UInt8} (hop:op=if k=4 then 123 else 91) (hen:en=if k=4 then 125 else 93):cw Tryz.prog 288 [.pointer (some ⟨rb,0,none⟩),bv op,bv en,.func (.func g) #[] cap.toArray].toArray w (λq w'=>q=.tuple #[]/\∃y,sD f k s=some y/\nU w0 V0 rb vb k own N V y w') (l6 w0 (sD f k s=none)):=by
 have ho8:op.toNat<128:=by rw[hop];split<;>decide
 have Fk:en.toNat<128:=by rw[hen];split<;>decide
 have e:sD f k s=match lh op s with
  | none=>none
  | some s=>match pk s with
   | none=>none
   | some c=>if c=en then ng en ([],[],s)else match jb f k ([],[],s)with
    | none=>none
    | some y=>match sC f k (y.2.2.rest.length+1) y with
     | none=>none
     | some z=>ng en z:=by unfold sD;rw[<-hop,<-hen];rfl
 rw[e];refine qo ah Tryz.func288 rfl aj 27 rfl ai [0,1,2,3,14,19] ?_;refine aP.dH ah ?_;conv=>whnf
 refine cw.mono (hS.sign hN ho8) ?_ (λch w' h=>h.mono λh=>by dsimp only at h;rw[h]);clear hS;rintro v w⟨rfl,s1,hs1,hS⟩;dsimp only at hs1 hS;have vk:=G0 hs1;rw[hs1];dsimp only;obtain⟨full,fO⟩:∃full:Option EL,full=match pk s1 with
   | none=>none
   | some c=>if c=en then ng en ([],[],s1)else match jb f k ([],[],s1)with
    | none=>none
    | some y=>match sC f k (y.2.2.rest.length+1) y with
     | none=>none
     | some z=>ng en z:=⟨_,rfl⟩
 rw[<-fO];conv=>whnf
 refine aP.oH ah (λ_:EL=>[(0,.pointer (some ⟨rb,0,none⟩)),(2,bv en)]) (λz w'=>full=ng en z/\nU w0 V0 rb vb k own N V z w') ?_ ?_
 ·conv=>whnf
  refine cw.mono (hS.SW hN) ?_ (λch w' h=>h.mono λh=>by dsimp only at h;rw[fO,h]);clear hS;rintro v w⟨⟨c,hc,rfl⟩,hS⟩;dsimp only at hc;rw[hc]at fO;conv=>whnf
  refine gI (λhne=>?_) (λheq=>?_);rotate_left
  ·obtain rfl:c=en:=eF.1 aa;conv=>whnf
   exact⟨rfl,([],[],s1),sB,by rw[fO];exact if_pos rfl,hS⟩
  ·have abd:¬c=en:=λe=>hne (by rw[e]);replace fO:full=match jb f k ([],[],s1)with
    | none=>none
    | some y=>match sC f k (y.2.2.rest.length+1) y with
     | none=>none
     | some z=>ng en z:=by rw[fO];exact if_neg abd
   conv=>whnf
   refine cw.mono (hel V w ([],[],s1) hU hS (by dsimp only;omega) (by dsimp only[aI];omega) (aK _)) ?_ (λch w' h=>h.mono λh=>by rw[fO,h]);clear hS;rintro v w⟨rfl,y,hy,hS⟩;obtain⟨g1,g2,g3⟩:=O8 hf hy;dsimp only[aI]at g1 g2 g3;rw[hy]at fO;dsimp only at fO;conv=>whnf
   refine aP.cut 0 (λ_:EL=>[(0,.pointer (some ⟨rb,0,none⟩)),(2,bv en)]) (λz w'=>full=ng en z/\nU w0 V0 rb vb k own N V z w') ?_ ?_
   ·refine aY (S:=EL) ah [0,1,2,3,14] (λ_=>[]) (λz w'=>(∃m,z.2.2.rest.length<m/\full=match sC f k m z with
      | none=>none
      | some z=>ng en z)/\(z.2.2.rest.length<n/\z.2.1.length+z.2.2.rest.length<=5000/\z.1.length<=z.2.1.length)/\nU w0 V0 rb vb k own N V z w') (λz _=>z.2.2.rest.length) y ?_
    conv=>whnf
    refine⟨sB,⟨⟨_,yE _,fO⟩,⟨aa,aa,aa⟩,hS⟩,?_⟩;clear hS fO;rintro z w⟨⟨m,hm,fO⟩,⟨l1,l2,l3⟩,hS⟩;cases m with
    | zero=>omega
    | succ m =>
    rw[sC]at fO;conv=>whnf
    refine cw.mono (hS.SW hN) ?_ (λch w' h=>h.mono λh=>by rw[fO,h]);clear hS;rintro v w⟨⟨c,hc,rfl⟩,hS⟩;rw[hc]at fO;dsimp only at fO;by_cases Jd:c=44
    ·subst Jd;rw[if_pos rfl]at fO;conv=>whnf
     refine cw.mono (hS.sign hN (c:=44) ag) ?_ (λch w' h=>h.mono λh=>by rw[fO,h]);clear hS;rintro v w⟨rfl,s2,dj,hS⟩;have q1:=G0 dj;rw[dj]at fO;dsimp only at fO;conv=>whnf
     refine cw.mono (hel V w (z.1,z.2.1,s2) hU hS (by dsimp only;omega) (by dsimp only;omega) l3) ?_ (λch w' h=>h.mono λh=>by rw[fO,h]);clear hS;rintro v w⟨rfl,y2,tW,hS⟩;obtain⟨q2,q3,q4⟩:=O8 hf tW;dsimp only at q2 q3 q4;rw[tW]at fO;dsimp only at fO;conv=>whnf
     exact⟨rfl,sB,y2,sB,⟨⟨m,aa,fO⟩,⟨aa,aa,aa⟩,hS⟩,aa⟩
    ·rw[if_neg Jd]at fO;have ai0:c.toNat≠44:=λe=>Jd (eF.1 e);conv=>whnf
     refine gI (λh=>absurd h aa) (λ_=>?_);conv=>whnf
     exact⟨rfl,z,sB,fO,hS⟩
   ·clear hS;rintro z w⟨hz,hS⟩;conv=>whnf
    exact⟨rfl,z,sB,hz,hS⟩
 clear hS;rintro z w⟨hz,hS⟩;refine aP.go ah ?_;conv=>whnf
 unfold ng at hz;refine cw.mono (hS.sign hN Fk) ?_ (λch w' h=>h.mono λh=>by rw[hz,h]);clear hS;rintro v w⟨rfl,s2,dj,hS⟩;rw[dj]at hz;conv=>whnf
 exact⟨rfl,_,hz,hS⟩
end
structure du(a:Addr)(u:ao)(b:Addr)(v:ao)(w w':ae):Prop where
 fst:w.cell? a=some u->w'.cell? a=some u
 snd:w.cell? b=some v->w'.cell? b=some v
theorem du.trans{a:Addr}{x y z:ae}(h:du a u b v x y)(k:du a u b v y z):du a u b v x z:=⟨λq=>k.fst (h.fst q),λq=>k.snd (h.snd q)⟩
theorem du.go{w':ae}{o:Nat}(H:Rel w0 V0 own V w')(hb:V.cell? b=some v)(hp:p)(hm:∃(i:Nat) (c:aD) (t:TypeId),own[i]?=some (.ax n c t)/\c[o]?=some u:=by first|exact⟨2,_,_,rfl,rfl⟩|exact⟨3,_,_,rfl,rfl⟩|exact⟨4,_,_,rfl,rfl⟩):du ⟨n,o,none⟩ u b v w w'/\p :=
 let⟨_,_,_,hi,hc⟩:=hm;⟨⟨λ_=>H.H6 hi hc,λ_=>H.zL hb⟩,hp⟩
theorem du.ld{w1:ae}{o:Nat}(H:Rel w0 V0 own V w)(hb:V.cell? b=some v)(hk:du ⟨n,o,none⟩ u b v w w1)(hm:∃(i:Nat) (c:aD) (t:TypeId),own[i]?=some (.ax n c t)/\c[o]?=some u:=by first|exact⟨2,_,_,rfl,rfl⟩|exact⟨3,_,_,rfl,rfl⟩|exact⟨4,_,_,rfl,rfl⟩):w1.cell? ⟨n,o,none⟩=some u/\w1.cell? b=some v :=
 let⟨_,_,_,hi,hc⟩:=hm;⟨hk.fst (H.H6 hi hc),hk.snd (H.zL hb)⟩
def HK(n:Nat):Prop:=∀(w0 V0 V w:ae) (own:bU) (rb N:Nat) (r o:Sl) (hs:List dt) (s:RS),mW V->Rel w0 V0 (eC rb r o hs s++own) V w->lv N V r hs s->N<=5000->s.rest.length<n ->
 cw Tryz.prog 244 [.pointer (some ⟨rb,0,none⟩)].toArray w (λq w'=>∃v s' h,gC n s=some (v,s')/\q=fb h/\s8 w0 V0 rb own N V s' (λU=>bV U h v) w') (l6 w0 (gC n s=none))
theorem Mb:∀ {c:aD} {o:Nat} {l:aD} {k:aD->Prop},o+l.length<=c.length->k (c.take o++(l++c.drop (o+l.length)))->fS c o l k
 | [],0,[],k,_,h=>h
 | [],0,_::_,k,hl,_=>by simp at hl
 | [],o+1,l,k,hl,_=>by simp at hl
 | u::c,0,[],k,_,h=>by simpa [fS]using h
 | u::c,0,v::l,k,hl,h=>by
  rw[fS];simp only[av,dU]at hl h;refine Mb (c:=c) (o:=0) (l:=l) aa ?_;simpa [Nat.add_comm]using h
 | u::c,o+1,l,k,hl,h=>by
  rw[fS];simp only[av]at hl;refine Mb (c:=c) (o:=o) (l:=l) aa ?_;simpa [show o+1+l.length=o+l.length+1 by omega]using h
theorem Rel.wA(H:Rel w0 V0 own V w){i sz:Nat}{s:Sl}{e:TypeId}{xs:aD}(hi:own[i]?=some (.row s e sz xs))(j:Nat){l:aD}(hj:j+l.length<=s.len*sz){b o:Nat}(hb:b=bD s.a)(ho:o=bw s.a+j)(h0:l≠[]){k:ae->Prop}
  (hk:∀w',Rel w0 V0 (own.set i (.row s e sz (xs.take j++(l++xs.drop (j+l.length))))) V w'->k w'):∃c t',nR w b c t'/\fS c o l λc'=>∀w',ma w b c' t' w'->k w':=by
 have hr:=H.rowAt hi;have vk:1<=l.length:=by
  cases l with
  | nil=>exact absurd rfl h0
  | cons x y=>simp
 rcases hr.at_ with⟨_,h2,_⟩|⟨b0,cur,h1,h2,h3,h4,h5,h6⟩
 ·rw[h2,Nat.zero_mul]at hj;omega
 ·rw[h1]at hb ho;simp only[bD,bw,dU]at hb ho;subst hb ho;have hbl:nR w b cur.toList e:=h2;have hle:=iD sz h3;have hcl:cur.toList.length=s.cap*sz:=by rw[Array.length_toList,h5]
  refine⟨cur.toList,e,hbl,Mb aa λw' hu=>hk w' ?_⟩;have hu':=hu;have hxl:=hr.len;have hnl:(cur.toList.take o++(l++cur.toList.drop (o+l.length))).length=cur.size:=by
   simp only[aq,bb,bd,hcl,h5];omega
  obtain⟨fz,cs,vx,rfl⟩:=hu.wd;refine H.put hi rfl rfl rfl ai (λk _ hk=>hu'.other λe=>hk (by rw[e];simp[aN.at_,h1])) ⟨?_,.inr ⟨b,(cur.toList.take o++(l++cur.toList.drop (o+l.length))).toArray,h1,hu'.row hbl (by simpa using hnl),h3,h4,by simpa [h5]using hnl,?_⟩⟩ λk hk=>.inl hk
  ·simp only[aq,bb,bd,hxl];omega
  ·rw[<-h6];show(cur.toList.take o++(l++cur.toList.drop (o+l.length))).take (s.len*sz)=_;rw[DH,DH,bb,bR (l:=cur.toList.take o) (by rw[bb];omega),bR (l:=l) aa,List.take_take,vO aa,List.drop_take];rw[vO aa,show s.len*sz-o-l.length=s.len*sz-(o+l.length)by omega]
theorem wG(vh:List VH)(h:VH):((vh++[eR]).flatMap cr).take (vh.length*5)++(cr h++((vh++[eR]).flatMap cr).drop (vh.length*5+(cr h).length))=(vh++[h]).flatMap cr:=by
 have hl:(vh.flatMap cr).length=vh.length*5:=pf (n:=5) (λ_=>rfl) vh;rw[bT,bT,<-hl,pX,<-List.drop_drop,k7];simp
section
variable{w0 V0 V w:ae}{own:bU}{rb vb b1 N n:Nat}{U:ae}
theorem Zc(ih:HK n)(hE:mW U)(hN:N<=5000)(Ag:U.cell? ⟨b1,0,none⟩=some (.pointer (some ⟨rb,0,none⟩))):HH w0 V0 rb vb 3 own N 289 [.pointer (some ⟨vb,0,none⟩),.pointer (some ⟨b1,0,none⟩)] (gC n) n U:=by
 intro V w x hU hS hlt vk hl2;obtain⟨V1,r,o,hs,ns,ps,vh,hV1,hR,hP,H⟩:=hS;have Ff:=(hU.trans hV1).cell Ag;have CY:=hP.len;simp only[eC,uM,aL,aA]at H;have hpl:=H.gn (i:=4) rfl (λ_=>rfl) ag;refine eV Tryz.func289 11 [0,1] ?_;(first|refine cz (id:=0) ah mixed (du ⟨vb,4,none⟩ ps.v ⟨b1,0,none⟩ (.pointer (some ⟨rb,0,none⟩))) (λ_ _ _=>du.trans) [3,5] [1,2] [0,1,2,4,3,5,6,7,9,8,10] [(3,[]),(5,[]),(6,[3,5]),(8,[3,5,6]),(10,[3,5,6])] aj ?_);intro w aR;replace H:=Rel.ext H aR.ext;have bad:gC n x.2.2=none->jb (gC n) 3 x=none:=λh=>by unfold jb nZ;rw[if_neg ag,h]
 have good:∀v s,gC n x.2.2=some (v,s)->jb (gC n) 3 x=some (x.1,x.2.1++[v],s):=λv s h=>by unfold jb nZ;rw[if_neg ag,h]
 repeat' (refine wk ?_;(first|refine du.go H (by assumption) ?_|(refine And.intro (λw1 hkp=>?_) ?_;focus (obtain⟨dW,iM⟩:=du.ld H (by assumption) hkp;(repeat ((conv=>whnf);first|refine an ?_|refine ea ?_|refine ol ?_));(conv=>whnf);all_goals (first|exact⟨rfl,rfl⟩|exact rfl)))|refine And.intro ?_ ?_|(refine H.nA ?_;clear H;intro w _ H)))
 ·conv=>whnf
  refine cw.mono (ih _ _ _ _ _ _ _ _ _ _ _ (hE.up (hU.trans hV1)) H hR hN hlt) ?_ (λch w' h=>h.mono bad);clear H;rintro v w⟨v1,s',h1,bF,rfl,V2,r2,o2,dj,hV2,ff,ou,H⟩;have Jt:=hV2.cell Ff;simp only[eC,uM,aL,aA]at H;repeat' (refine wk ?_;(first|refine du.go H (by assumption) ?_|(refine And.intro (λw1 hkp=>?_) ?_;focus (obtain⟨dW,iM⟩:=du.ld H (by assumption) hkp;(repeat ((conv=>whnf);first|refine an ?_|refine ea ?_|refine ol ?_));(conv=>whnf);all_goals (first|exact⟨rfl,rfl⟩|exact rfl)))|refine And.intro ?_ ?_|(refine H.nA ?_;clear H;intro w _ H)))
  conv=>whnf
  have hps:=H.gn (i:=5) rfl (λ_=>rfl) ag;refine Rel.tf (f:=cr) (s:=ps) (l:=vh) (x:=eR) ah rfl rfl rfl rfl rfl ag (λ_=>rfl) (by simp[Value.oneCell']) H (i:=4) rfl (by show(vh.length+1)*88<=_;omega) aa ?_;clear H;intro qT w H;simp only[iR,bC]at H;have mz:=H.gn (i:=4) rfl (λ_=>rfl) ag;rw[aq,cQ]at mz;obtain⟨J7,qH⟩:=(H.eG (i:=4) rfl (λ_=>rfl) ag).get (n:=5) (λ_=>rfl) ag (i:=vh.length) ai;repeat' ((first|(refine H.uI ?_;clear H;intros;rename_i w H;constructor)|refine wk ?_);(first|refine du.go H (by assumption) ?_|(refine And.intro (λw1 hkp=>?_) ?_;focus (obtain⟨dW,iM⟩:=du.ld H (by assumption) hkp;(repeat ((conv=>whnf);first|refine an ?_|refine ea ?_|refine ol ?_));(conv=>whnf);all_goals (first|exact⟨rfl,rfl⟩|exact rfl)))|refine And.intro ?_ ?_|(refine H.nA ?_;clear H;intro w _ H)))
  ·conv=>whnf
   refine Rel.wA (i:=4) H rfl (vh.length*5) (by rw[mz];show vh.length*5+5<=(vh.length+1)*5;omega) rfl (by rw[hps];simp[placeOf]) (by simp[Value.cells]) ?_;clear H;intro w H;simp only[iR,bC]at H;rw[wG]at H;refine H.wh ?_;clear H;intro w H;exact⟨(x.1,x.2.1++[v1],s'),(good _ _ bF),V2,r2,o2,dj,ns,qT,vh++[h1],(hV1.trans hV2),ff,((hP.up rG hV2).snoc ou),H⟩
  ·refine H.wh ?_;clear H;intro w H;refine Rel.wA (i:=4) H rfl (vh.length*5) (by rw[mz];show vh.length*5+5<=(vh.length+1)*5;omega) rfl (by rw[hps];simp[placeOf]) (by simp[Value.cells]) ?_;clear H;intro w H;simp only[iR,bC]at H;rw[wG]at H;refine wk ?_;exact⟨(x.1,x.2.1++[v1],s'),(good _ _ bF),V2,r2,o2,dj,ns,qT,vh++[h1],(hV1.trans hV2),ff,((hP.up rG hV2).snoc ou),H⟩
 ·conv=>whnf
  replace H:=H.Ba;refine cw.mono (ih _ _ _ _ _ _ _ _ _ _ _ (hE.up (hU.trans hV1)) H hR hN hlt) ?_ (λch w' h=>h.mono bad);clear H;rintro v w⟨v1,s',h1,bF,rfl,V2,r2,o2,dj,hV2,ff,ou,H⟩;have Jt:=hV2.cell Ff;simp only[eC,uM,aL,aA]at H;repeat' (refine wk ?_;(first|refine du.go H (by assumption) ?_|(refine And.intro (λw1 hkp=>?_) ?_;focus (obtain⟨dW,iM⟩:=du.ld H (by assumption) hkp;(repeat ((conv=>whnf);first|refine an ?_|refine ea ?_|refine ol ?_));(conv=>whnf);all_goals (first|exact⟨rfl,rfl⟩|exact rfl)))|refine And.intro ?_ ?_|(refine H.nA ?_;clear H;intro w _ H)))
  conv=>whnf
  replace H:=H.MM;have hps:=H.gn (i:=5) rfl (λ_=>rfl) ag;refine Rel.tf (f:=cr) (s:=ps) (l:=vh) (x:=eR) ah rfl rfl rfl rfl rfl ag (λ_=>rfl) (by simp[Value.oneCell']) H (i:=4) rfl (by show(vh.length+1)*88<=_;omega) aa ?_;clear H;intro qT w H;simp only[iR,bC]at H;have mz:=H.gn (i:=4) rfl (λ_=>rfl) ag;rw[aq,cQ]at mz;obtain⟨J7,qH⟩:=(H.eG (i:=4) rfl (λ_=>rfl) ag).get (n:=5) (λ_=>rfl) ag (i:=vh.length) ai;repeat' ((first|(refine H.uI ?_;clear H;intros;rename_i w H;constructor)|refine wk ?_);(first|refine du.go H (by assumption) ?_|(refine And.intro (λw1 hkp=>?_) ?_;focus (obtain⟨dW,iM⟩:=du.ld H (by assumption) hkp;(repeat ((conv=>whnf);first|refine an ?_|refine ea ?_|refine ol ?_));(conv=>whnf);all_goals (first|exact⟨rfl,rfl⟩|exact rfl)))|refine And.intro ?_ ?_|(refine H.nA ?_;clear H;intro w _ H)))
  ·conv=>whnf
   refine Rel.wA (i:=4) H rfl (vh.length*5) (by rw[mz];show vh.length*5+5<=(vh.length+1)*5;omega) rfl (by rw[hps];simp[placeOf]) (by simp[Value.cells]) ?_;clear H;intro w H;simp only[iR,bC]at H;rw[wG]at H;refine H.wh ?_;clear H;intro w H;exact⟨(x.1,x.2.1++[v1],s'),(good _ _ bF),V2,r2,o2,dj,ns,qT,vh++[h1],(hV1.trans hV2),ff,((hP.up rG hV2).snoc ou),H⟩
  ·refine H.wh ?_;clear H;intro w H;refine Rel.wA (i:=4) H rfl (vh.length*5) (by rw[mz];show vh.length*5+5<=(vh.length+1)*5;omega) rfl (by rw[hps];simp[placeOf]) (by simp[Value.cells]) ?_;clear H;intro w H;simp only[iR,bC]at H;rw[wG]at H;refine wk ?_;exact⟨(x.1,x.2.1++[v1],s'),(good _ _ bF),V2,r2,o2,dj,ns,qT,vh++[h1],(hV1.trans hV2),ff,((hP.up rG hV2).snoc ou),H⟩
theorem Zd(ih:HK n)(hE:mW U)(hN:N<=5000)(Ag:U.cell? ⟨b1,0,none⟩=some (.pointer (some ⟨rb,0,none⟩))):HH w0 V0 rb vb 4 own N 290 [.pointer (some ⟨vb,0,none⟩),.pointer (some ⟨b1,0,none⟩)] (gC n) n U:=by
 intro V w x hU hS hlt vk hl2;obtain⟨V1,r,o,hs,ns,ps,vh,hV1,hR,hP,H⟩:=hS;have Ff:=(hU.trans hV1).cell Ag;have CY:=hP.len;have e:jb (gC n) 4 x=match sE x.2.2 with
   | none=>none
   | some (nm,s)=>match lh 58 s with
    | none=>none
    | some s=>nZ (gC n) (x.1++[nm]) x.2.1 s:=by unfold jb;rw[if_pos rfl];rfl
 simp only[eC,uM,aL,aA]at H;refine eV Tryz.func290 20 [0,1] ?_;(first|refine cz (id:=0) ah mixed (du ⟨vb,3,none⟩ ns.v ⟨b1,0,none⟩ (.pointer (some ⟨rb,0,none⟩))) (λ_ _ _=>du.trans) [3,4] [1] [0,1,2,3,4,5,6,7] [(3,[]),(4,[3]),(5,[3,4]),(7,[3,4,5])] aj ?_|refine cz (id:=2) ah mixed (du ⟨vb,3,none⟩ ns.v ⟨b1,0,none⟩ (.pointer (some ⟨rb,0,none⟩))) (λ_ _ _=>du.trans) [3,5] [1,2] [0,1,2,4,3,5,6,7,9,8,10] [(3,[]),(5,[]),(6,[3,5]),(8,[3,5,6]),(10,[3,5,6])] aj ?_);intro w aR;replace H:=Rel.ext H aR.ext;repeat' (refine wk ?_;(first|refine du.go H (by assumption) ?_|(refine And.intro (λw1 hkp=>?_) ?_;focus (obtain⟨dW,iM⟩:=du.ld H (by assumption) hkp;(repeat ((conv=>whnf);first|refine an ?_|refine ea ?_|refine ol ?_));(conv=>whnf);all_goals (first|exact⟨rfl,rfl⟩|exact rfl)))|refine And.intro ?_ ?_|(refine H.nA ?_;clear H;intro w _ H)))
 refine wk ?_;refine cw.mono (ac7 H hR hN) ?_ (λch w' h=>h.mono λh=>by rw[e,h]);clear H;rintro v w⟨nm,s1,vp,rfl,V2,r2,o2,dj,hV2,ff,_,H⟩;rw[vp]at e;dsimp only at e;have q1:=Sm vp;have Jt:=hV2.cell Ff;simp only[eC,uM,aL,aA]at H;repeat' (refine wk ?_;(first|refine du.go H (by assumption) ?_|(refine And.intro (λw1 hkp=>?_) ?_;focus (obtain⟨dW,iM⟩:=du.ld H (by assumption) hkp;(repeat ((conv=>whnf);first|refine an ?_|refine ea ?_|refine ol ?_));(conv=>whnf);all_goals (first|exact⟨rfl,rfl⟩|exact rfl)))|refine And.intro ?_ ?_|(refine H.nA ?_;clear H;intro w _ H)))
 conv=>whnf
 refine Rel.tf (f:=p7) (s:=ns) (l:=x.1) (x:=nm) ah rfl rfl rfl rfl rfl ag (λ_=>rfl) (by simp[Value.oneCell']) H (i:=3) rfl (by show(x.1.length+1)*16<=_;omega) aa ?_;clear H;intro Dm w H;simp only[iR,bC]at H;repeat' ((refine H.wh ?_;clear H;intro w H);(first|refine du.go H (by assumption) ?_|(refine And.intro (λw1 hkp=>?_) ?_;focus (obtain⟨dW,iM⟩:=du.ld H (by assumption) hkp;(repeat ((conv=>whnf);first|refine an ?_|refine ea ?_|refine ol ?_));(conv=>whnf);all_goals (first|exact⟨rfl,rfl⟩|exact rfl)))|refine And.intro ?_ ?_|(refine H.nA ?_;clear H;intro w _ H)))
 refine H.wh ?_;clear H;intro w H;refine cw.mono (UD (c:=58) H ff hN ag) ?_ (λch w' h=>h.mono λh=>by rw[e,h]);clear H;rintro v w⟨rfl,s2,dj,V3,r3,o3,Ke,aw,xr,_,H⟩;rw[dj]at e;dsimp only at e;have q2:=G0 dj;have Qq:=aw.cell Jt;have Ad:=(hV1.trans hV2).trans aw;simp only[eC,aL,aA]at H;have bad:gC n s2=none->jb (gC n) 4 x=none:=λh=>by rw[e];unfold nZ;rw[h]
 have good:∀v s,gC n s2=some (v,s)->jb (gC n) 4 x=some (x.1++[nm],x.2.1++[v],s):=λv s h=>by rw[e];unfold nZ;rw[h]
 have hP3:=(hP.up rG hV2).up rG aw;refine wk ?_;(first|refine cz (id:=0) ah mixed (du ⟨vb,4,none⟩ ps.v ⟨b1,0,none⟩ (.pointer (some ⟨rb,0,none⟩))) (λ_ _ _=>du.trans) [3,4] [1] [0,1,2,3,4,5,6,7] [(3,[]),(4,[3]),(5,[3,4]),(7,[3,4,5])] aj ?_|refine cz (id:=2) ah mixed (du ⟨vb,4,none⟩ ps.v ⟨b1,0,none⟩ (.pointer (some ⟨rb,0,none⟩))) (λ_ _ _=>du.trans) [3,5] [1,2] [0,1,2,4,3,5,6,7,9,8,10] [(3,[]),(5,[]),(6,[3,5]),(8,[3,5,6]),(10,[3,5,6])] aj ?_);intro w aR;replace H:=Rel.ext H aR.ext;repeat' (refine wk ?_;(first|refine du.go H (by assumption) ?_|(refine And.intro (λw1 hkp=>?_) ?_;focus (obtain⟨dW,iM⟩:=du.ld H (by assumption) hkp;(repeat ((conv=>whnf);first|refine an ?_|refine ea ?_|refine ol ?_));(conv=>whnf);all_goals (first|exact⟨rfl,rfl⟩|exact rfl)))|refine And.intro ?_ ?_|(refine H.nA ?_;clear H;intro w _ H)))
 ·conv=>whnf
  refine cw.mono (ih _ _ _ _ _ _ _ _ _ _ _ (hE.up (hU.trans Ad)) H xr hN aa) ?_ (λch w' h=>h.mono bad);clear H;rintro v w⟨v1,s',h1,bF,rfl,V2,r2,o2,dj,hV2,ff,ou,H⟩;have aaF:=hV2.cell Qq;simp only[eC,aL,aA]at H;repeat' (refine wk ?_;(first|refine du.go H (by assumption) ?_|(refine And.intro (λw1 hkp=>?_) ?_;focus (obtain⟨dW,iM⟩:=du.ld H (by assumption) hkp;(repeat ((conv=>whnf);first|refine an ?_|refine ea ?_|refine ol ?_));(conv=>whnf);all_goals (first|exact⟨rfl,rfl⟩|exact rfl)))|refine And.intro ?_ ?_|(refine H.nA ?_;clear H;intro w _ H)))
  conv=>whnf
  have hps:=H.gn (i:=5) rfl (λ_=>rfl) ag;refine Rel.tf (f:=cr) (s:=ps) (l:=vh) (x:=eR) ah rfl rfl rfl rfl rfl ag (λ_=>rfl) (by simp[Value.oneCell']) H (i:=4) rfl (by show(vh.length+1)*88<=_;omega) aa ?_;clear H;intro qT w H;simp only[iR,bC]at H;have mz:=H.gn (i:=4) rfl (λ_=>rfl) ag;rw[aq,cQ]at mz;obtain⟨J7,qH⟩:=(H.eG (i:=4) rfl (λ_=>rfl) ag).get (n:=5) (λ_=>rfl) ag (i:=vh.length) ai;repeat' ((first|(refine H.uI ?_;clear H;intros;rename_i w H;constructor)|refine wk ?_);(first|refine du.go H (by assumption) ?_|(refine And.intro (λw1 hkp=>?_) ?_;focus (obtain⟨dW,iM⟩:=du.ld H (by assumption) hkp;(repeat ((conv=>whnf);first|refine an ?_|refine ea ?_|refine ol ?_));(conv=>whnf);all_goals (first|exact⟨rfl,rfl⟩|exact rfl)))|refine And.intro ?_ ?_|(refine H.nA ?_;clear H;intro w _ H)))
  ·conv=>whnf
   refine Rel.wA (i:=4) H rfl (vh.length*5) (by rw[mz];show vh.length*5+5<=(vh.length+1)*5;omega) rfl (by rw[hps];simp[placeOf]) (by simp[Value.cells]) ?_;clear H;intro w H;simp only[iR,bC]at H;rw[wG]at H;refine H.wh ?_;clear H;intro w H;exact⟨(x.1++[nm],x.2.1++[v1],s'),(good _ _ bF),V2,r2,o2,dj,Dm,qT,vh++[h1],(Ad.trans hV2),ff,((hP3.up rG hV2).snoc ou),H⟩
  ·refine H.wh ?_;clear H;intro w H;refine Rel.wA (i:=4) H rfl (vh.length*5) (by rw[mz];show vh.length*5+5<=(vh.length+1)*5;omega) rfl (by rw[hps];simp[placeOf]) (by simp[Value.cells]) ?_;clear H;intro w H;simp only[iR,bC]at H;rw[wG]at H;refine wk ?_;exact⟨(x.1++[nm],x.2.1++[v1],s'),(good _ _ bF),V2,r2,o2,dj,Dm,qT,vh++[h1],(Ad.trans hV2),ff,((hP3.up rG hV2).snoc ou),H⟩
 ·conv=>whnf
  replace H:=H.Ba;refine cw.mono (ih _ _ _ _ _ _ _ _ _ _ _ (hE.up (hU.trans Ad)) H xr hN aa) ?_ (λch w' h=>h.mono bad);clear H;rintro v w⟨v1,s',h1,bF,rfl,V2,r2,o2,dj,hV2,ff,ou,H⟩;have aaF:=hV2.cell Qq;simp only[eC,aL,aA]at H;repeat' (refine wk ?_;(first|refine du.go H (by assumption) ?_|(refine And.intro (λw1 hkp=>?_) ?_;focus (obtain⟨dW,iM⟩:=du.ld H (by assumption) hkp;(repeat ((conv=>whnf);first|refine an ?_|refine ea ?_|refine ol ?_));(conv=>whnf);all_goals (first|exact⟨rfl,rfl⟩|exact rfl)))|refine And.intro ?_ ?_|(refine H.nA ?_;clear H;intro w _ H)))
  conv=>whnf
  replace H:=H.MM;have hps:=H.gn (i:=5) rfl (λ_=>rfl) ag;refine Rel.tf (f:=cr) (s:=ps) (l:=vh) (x:=eR) ah rfl rfl rfl rfl rfl ag (λ_=>rfl) (by simp[Value.oneCell']) H (i:=4) rfl (by show(vh.length+1)*88<=_;omega) aa ?_;clear H;intro qT w H;simp only[iR,bC]at H;have mz:=H.gn (i:=4) rfl (λ_=>rfl) ag;rw[aq,cQ]at mz;obtain⟨J7,qH⟩:=(H.eG (i:=4) rfl (λ_=>rfl) ag).get (n:=5) (λ_=>rfl) ag (i:=vh.length) ai;repeat' ((first|(refine H.uI ?_;clear H;intros;rename_i w H;constructor)|refine wk ?_);(first|refine du.go H (by assumption) ?_|(refine And.intro (λw1 hkp=>?_) ?_;focus (obtain⟨dW,iM⟩:=du.ld H (by assumption) hkp;(repeat ((conv=>whnf);first|refine an ?_|refine ea ?_|refine ol ?_));(conv=>whnf);all_goals (first|exact⟨rfl,rfl⟩|exact rfl)))|refine And.intro ?_ ?_|(refine H.nA ?_;clear H;intro w _ H)))
  ·conv=>whnf
   refine Rel.wA (i:=4) H rfl (vh.length*5) (by rw[mz];show vh.length*5+5<=(vh.length+1)*5;omega) rfl (by rw[hps];simp[placeOf]) (by simp[Value.cells]) ?_;clear H;intro w H;simp only[iR,bC]at H;rw[wG]at H;refine H.wh ?_;clear H;intro w H;exact⟨(x.1++[nm],x.2.1++[v1],s'),(good _ _ bF),V2,r2,o2,dj,Dm,qT,vh++[h1],(Ad.trans hV2),ff,((hP3.up rG hV2).snoc ou),H⟩
  ·refine H.wh ?_;clear H;intro w H;refine Rel.wA (i:=4) H rfl (vh.length*5) (by rw[mz];show vh.length*5+5<=(vh.length+1)*5;omega) rfl (by rw[hps];simp[placeOf]) (by simp[Value.cells]) ?_;clear H;intro w H;simp only[iR,bC]at H;rw[wG]at H;refine wk ?_;exact⟨(x.1++[nm],x.2.1++[v1],s'),(good _ _ bF),V2,r2,o2,dj,Dm,qT,vh++[h1],(Ad.trans hV2),ff,((hP3.up rG hV2).snoc ou),H⟩
end
theorem VZ:∀n,HK n
 | 0=>λw0 V0 V w own rb N r o hs s hE H hR hN hlt=>absurd hlt (Nat.not_lt_zero _)
 | n+1=>λw0 V0 V w own rb N r o hs s hE H hR hN hlt=>by
  have ih:=VZ n;have kj:=hR.cnt;simp only[eC,aL,aA]at H;refine eV Tryz.func244 33 [0,1,2,3,4,5,8,14,22] ?_;refine wk ?_;refine H.nA ?_;clear H;intro w b1 H;obtain⟨V1,hV1,H,fE⟩:=H.bt;have Ag:V1.cell? ⟨b1,0,none⟩=some (.pointer (some ⟨rb,0,none⟩)):=fE.bE rfl;have gS:=hR.up hV1;refine wk ?_;refine H.nA ?_;clear H;intro w b2 H;replace H:=H.Ba;refine wk ?_;refine cw.mono (Ga H gS hN) ?_ (λch w' h=>h.mono λh=>by rw[gC,h]);clear H;rintro v w⟨⟨c,hc,rfl⟩,H⟩;have CA:=c.toNat_lt
  have e:gC (n+1) s=if c=34 then(uC s).map λx=>(.mk 2 0 x.1 [] [],x.2)
   else if c=91 then(sD (gC n) 3 s).map λx=>(.mk 3 0 [] x.1 x.2.1,x.2.2)
   else if c=123 then(sD (gC n) 4 s).map λx=>(.mk 4 0 [] x.1 x.2.1,x.2.2)
   else(vB s).map λx=>(.mk 1 x.1 [] [] [],x.2):=by rw[gC,hc]
  simp only[eC,aL,aA]at H;by_cases gb:c=34
  ·subst gb;refine wk ?_;refine cw.mono (ahm H gS hN hc) ?_ (λch w' h=>h.mono λh=>by rw[e,if_pos rfl,h];rfl);clear H;rintro v w⟨b,s',p,htx,rfl,V2,r2,o2,dj,hV2,ff,hp,H⟩;simp only[eC,aL,aA]at H;refine H.wg ?_;clear H;intro w H;exact⟨.mk 2 0 b [] [],s',iZ p,by rw[e,if_pos rfl,htx];rfl,rfl,V2,r2,o2,dj,hV1.trans hV2,ff,y7 hp,H.sx⟩
  have g34:c.toNat≠34:=λe=>gb (eF.1 e);by_cases E2:c=91
  ·subst E2;refine wk ?_;refine H.nA ?_;clear H;intro w b4 H;refine H.wg ?_;clear H;intro w H;replace H:=H.Ba;have H3:=((H.cb 9 1).perm (vM (l₁:=[_,_,_])).symm)
   have H4:=((H3.cb 27 5).perm (vM (l₁:=[_,_,_,_])).symm)
   clear H H3;refine cw.mono (RU (n:=n) (f:=gC n) (rb:=rb) (vb:=b4) (k:=3) (own:=.ax b2 [iv 0,iv 0,.slice none 0 0,.slice none 0 0,.slice none 0 0] 27::own) (N:=N) (U:=V1) (V:=V1) (s:=s) (GI n) (Zc ih (hE.up hV1) hN Ag) (Sub.refl _) ⟨V1,r,o,hs,⟨none,0,0⟩,⟨none,0,0⟩,[],Sub.refl _,gS,Pw.nil,H4⟩ aa aa hN rfl rfl) ?_ (λch w' h=>h.mono λh=>by rw[e];rw[if_neg ag,if_pos rfl];rw[h];rfl);clear H4;rintro v w⟨rfl,y,hy,V2,r2,o2,dj,ns,ps,vh,hV2,ff,hP,H⟩;simp only[eC,uM,aL,aA]at H;refine H.wg ?_;clear H;intro w H;replace H:=H.perm (vM (l₁:=[_,_,_,_]));obtain⟨V3,aw,H,hps⟩:=H.aT (λ_=>rfl) ag;replace H:=H.perm (vM (l₁:=[_,_,_]));obtain⟨V4,aG,H,hns⟩:=H.aT (λ_=>rfl) ag;refine⟨.mk 3 0 [] y.1 y.2.1,y.2.2,⟨3,0,⟨none,0,0⟩,ns,ps⟩,?_,rfl,V4,r2,o2,dj,(hV1.trans hV2).trans (aw.trans aG),ff.up (aw.trans aG),?_,H.sx⟩
   ·rw[e];rw[if_neg ag,if_pos rfl];rw[hy];rfl
   ·exact .mk vh rfl rfl (aB.nil _ _) hns (hps.up aG) hP.len λi x p h1 h2=>(hP.all i x p h1 h2).up (aw.trans aG)
  have g91:c.toNat≠91:=λe=>E2 (eF.1 e);by_cases E1:c=123
  ·subst E1;refine wk ?_;refine H.nA ?_;clear H;intro w b4 H;refine H.wg ?_;clear H;intro w H;replace H:=H.Ba;have H3:=((H.cb 9 1).perm (vM (l₁:=[_,_,_])).symm)
   have H4:=((H3.cb 27 5).perm (vM (l₁:=[_,_,_,_])).symm)
   clear H H3;refine cw.mono (RU (n:=n) (f:=gC n) (rb:=rb) (vb:=b4) (k:=4) (own:=.ax b2 [iv 0,iv 0,.slice none 0 0,.slice none 0 0,.slice none 0 0] 27::own) (N:=N) (U:=V1) (V:=V1) (s:=s) (GI n) (Zd ih (hE.up hV1) hN Ag) (Sub.refl _) ⟨V1,r,o,hs,⟨none,0,0⟩,⟨none,0,0⟩,[],Sub.refl _,gS,Pw.nil,H4⟩ aa aa hN rfl rfl) ?_ (λch w' h=>h.mono λh=>by rw[e];rw[if_neg ag,if_neg ag,if_pos rfl];rw[h];rfl);clear H4;rintro v w⟨rfl,y,hy,V2,r2,o2,dj,ns,ps,vh,hV2,ff,hP,H⟩;simp only[eC,uM,aL,aA]at H;refine H.wg ?_;clear H;intro w H;replace H:=H.perm (vM (l₁:=[_,_,_,_]));obtain⟨V3,aw,H,hps⟩:=H.aT (λ_=>rfl) ag;replace H:=H.perm (vM (l₁:=[_,_,_]));obtain⟨V4,aG,H,hns⟩:=H.aT (λ_=>rfl) ag;refine⟨.mk 4 0 [] y.1 y.2.1,y.2.2,⟨4,0,⟨none,0,0⟩,ns,ps⟩,?_,rfl,V4,r2,o2,dj,(hV1.trans hV2).trans (aw.trans aG),ff.up (aw.trans aG),?_,H.sx⟩
   ·rw[e];rw[if_neg ag,if_neg ag,if_pos rfl];rw[hy];rfl
   ·exact .mk vh rfl rfl (aB.nil _ _) hns (hps.up aG) hP.len λi x p h1 h2=>(hP.all i x p h1 h2).up (aw.trans aG)
  have aiX:c.toNat≠123:=λe=>E1 (eF.1 e);refine wk ?_;refine cw.mono (adp (hE.up hV1) H gS hN hc) ?_ (λch w' h=>h.mono λh=>by rw[e,if_neg gb,if_neg E2,if_neg E1,h];rfl);clear H;rintro v w⟨z,s',hnu,rfl,V2,r2,o2,dj,hV2,ff,_,H⟩;simp only[eC,aL,aA]at H;refine H.wg ?_;clear H;intro w H;exact⟨.mk 1 z [] [] [],s',kV z,by rw[e,if_neg gb,if_neg E2,if_neg E1,hnu];rfl,rfl,V2,r2,o2,dj,hV1.trans hV2,ff,Bj _ z,H.sx⟩
theorem Sat.jC{tm:Array ao}(h:Sat env tm)(hd:∀t u,get? env t=some u->t≠d):Sat env (tm.setIfInBounds d v):=by
 intro t u hu;rw[Array.getElem?_setIfInBounds_ne (λe=>hd t u hu e.symm)];exact h t u hu
def KN(env:Env)(l:List Oper):Bool:=l.all λo=>match o.dst with|none=>true|some d=>env.all λp=>p.1 != d
theorem So(h:(env.all λp=>p.1 != d)=true):∀t u,get? env t=some u->t≠d:=by
 induction env with
 | nil=>intro t u hu;simp[get?]at hu
 | cons p r ih =>
  obtain⟨s,x⟩:=p;simp only[TE,Bool.and_eq_true]at h;intro t u hu;rcases EZ hu with⟨rfl,_⟩|hu
  ·simpa using h.1
  ·exact ih h.2 t u hu
theorem Sat.Te{a:Act}{o:Oper}(h:Sat env a.tmps)(hd:(match o.dst with|none=>true|some d=>env.all λp=>p.1 != d)=true):Sat env (a.put o.dst v).tmps:=by
 cases ho:o.dst with
 | none=>exact h
 | some d =>
  rw[ho]at hd;exact h.jC (So hd)
theorem Nc{C:Cx}(hT:bK C.P C.T){env0:Env}{ops:List Oper}{Q:Exit->Act->ae->Prop}{K:Env->ae->Prop}{Z:List PanicEntry->ae->Prop}{ds:List Deferred}
  (hQ:∀env (a:Act) w,Sat env a.tmps->a.tmps.size=C.n->a.defers=ds->K env w->Q .normal a w) (hZ:∀(a:Act) w ch,Sat env0 a.tmps->a.tmps.size=C.n->a.defers=ds->Z ch w->Q (.panic ch) a w) :
  ∀ {l:List Oper} {env:Env} {a:Act} {w:ae},KN env0 l=true->Sat env0 a.tmps->Sat env a.tmps->a.tmps.size=C.n->a.defers=ds->y8 C ops l env w K Z->wpListIn (Fr C.r) 0 C.P ops.toArray Q l a w
 | [],env,a,w,_,_,hs,hn,hd,h=>hQ env a w hs hn hd h
 | o::rest,env,a,w,hno,h0,hs,hn,hd,h=>by
  unfold KN at hno;rw[TE,Bool.and_eq_true]at hno;unfold wpListIn;rw[Wh]at h;rcases Aa h hs with⟨hw,aJ,hs',h'⟩|⟨hw,aJ,hs',h'⟩
  ·rw[if_pos hw];refine zb hT hs' h' (λv w' hk=>?_) (λch w' hz=>hZ a w' ch h0 hn hd hz);obtain⟨dO,h1,h2,h3,h4⟩:=lR hk hs' hn;exact Nc hT hQ hZ hno.2 (h0.Te hno.1) h1 h2 (h3.trans hd) h4
  ·rw[if_neg (by simp[hw])];refine⟨λ_ _=>trivial,?_⟩;obtain⟨dO,h1,h2,h3,h4⟩:=lR h' hs' hn;exact Nc hT hQ hZ hno.2 (h0.Te hno.1) h1 h2 (h3.trans hd) h4
theorem afv(hT:bK C.P C.T)(env0:Env){id:Nat}{ops:Array Oper}{env:Env}{ds:List Deferred}{w:ae}{Q:ic}(hno:KN env0 ops.toList=true)(h0:p8 env env0)
  (h:y8 C ops.toList ops.toList env w (λaJ w'=>nG aJ C.live λe'=>Q .normal e' ds w') (λch w'=>Q (.panic ch) env0 ds w')):aP C (.region id ops false) env ds w Q:=by
 refine⟨λa hs hn hd=>?_⟩;refine wpIn_region_list ?_;have:=Nc (ops:=ops.toList) (ds:=ds) hT (env0:=env0) (Q:=λe a' w'=>a'.tmps.size=C.n/\∃aJ,Sat aJ a'.tmps/\Q e aJ a'.defers w') (λaJ a' w' h1 h2 h3 h4=>?_) (λa' w' ch h1 h2 h3 h4=>?_) hno (λt v ht=>hs t v (sT h0 t v ht)) hs hn hd h
 ·simpa using this
 ·obtain⟨e',h5,h6⟩:=sI h4;exact⟨h2,e',λt v ht=>h1 t v (h5 t v ht),h3▸h6⟩
 ·exact⟨h2,env0,h1,h3▸h4⟩
theorem afu(hT:bK C.P C.T)(hr:C.r=none){id g d:Nat}{o1 o2:Oper}{cap:Array Operand}{env:Env}{ds:List Deferred}{w:ae}{Q:ic}
  (h1:o1.op=.makeFunc (.func g) #[] cap) (g1:o1.guard=none) (d1:o1.dst=some d) (h2:o2.op=.defer ⟨.value (.tmp d),#[],#[]⟩) (g2:o2.guard=none) (d2:o2.dst=none) (hd:d<C.n)
  (h:iW env cap.toList λvs=>Q .normal env ({ target:=.fn (.func g) vs.toArray,args:=#[] }::ds) w) (hno:(env.all λp=>p.1 != d)=true):aP C (.region id #[o1,o2] false) env ds w Q:=by
 refine⟨λa hs hn hdf=>?_⟩;refine wpIn_region_list ?_;have hv:mR C o1.op o1.type env w (λv w'=>(∃vs:aD,v=.func (.func g) #[] vs.toArray/\Q .normal env ({ target:=.fn (.func g) vs.toArray,args:=#[] }::ds) w')/\w'=w) (λ_ _=>False):=by
  rw[h1];have key:∀(l:List Operand) (k:aD->Prop) (k':aD->Prop),(∀vs,k vs->k' vs)->iW env l k->iW env l k':=by
   intro l;induction l with
   | nil=>exact λk k' hk h=>hk _ h
   | cons x l ih =>
    intro k k' hk h;cases x with
    | tmp t =>
     obtain⟨v,h3,h4⟩:=u7.1 h;exact u7.2 ⟨v,h3,ih _ _ (λvs=>hk _) h4⟩
    | const v=>exact ih _ _ (λvs=>hk _) h
    | global g=>exact ih _ _ (λvs=>hk _) h
    | func f=>exact ih _ _ (λvs=>hk _) h
  exact key cap.toList _ _ (λvs hq=>⟨⟨vs,rfl,hq⟩,rfl⟩) h
 show wpListIn (Fr C.r) 0 C.P #[o1,o2] _ [o1,o2] a w;unfold wpListIn;rw[if_pos (by simp[Region.wanted,g1])];refine zb hT hs hv (λv w' hk=>?_) (λch w' hz=>hz.elim);obtain⟨⟨vs,rfl,hq⟩,rfl⟩:=hk;unfold wpListIn;rw[if_pos (by simp[Region.wanted,g2])];refine⟨λ_ _=>trivial,?_⟩;have e:(Fr C.r).round=none:=by show C.r=none;exact hr
 have ev:(a.put o1.dst (.func (.func g) #[] vs.toArray)).eval (.tmp d)=.func (.func g) #[] vs.toArray:=by
  rw[d1];have:d<a.tmps.size:=by rw[hn];exact hd
  simp[Act.eval,Act.put,Gu,this]
 rw[e,Oper.semAt_none];simp only[execOp,h2,resolve,ev,Deferred.ofValue,Sem.run_bind,Sem.run_pure,Result.andThen_ok];rw[Oper.uponIn_defer];have em:#[]++Array.map (a.put o1.dst (.func (.func g) #[] vs.toArray)).eval #[]=#[]:=ai;rw[em,d1,d2];refine wpListIn_nil ⟨by simp[Act.put,hn],env,hs.jC (So hno),?_⟩;have:(({ a.put (some d) (.func (.func g) #[] vs.toArray)with defers:={ target:=.fn (.func g) vs.toArray,args:=#[] }::(a.put (some d) (.func (.func g) #[] vs.toArray)).defers }:Act).put none undef).defers={ target:=.fn (.func g) vs.toArray,args:=#[] }::ds:=by
  simp[Act.put,hdf]
 rw[this];exact hq
theorem X9{T:List TD}(hT:bK P T){f g:FuncId}{fn:Func}{c:Code}{args:aD}{w:ae}{K:ao->ae->Prop}
  (hf:P.funcs[f]?=some fn) (hb:fn.body=some c) (hname:(fn.name == "runtime.NumGoroutine")=false) (n:Nat) (hn:fn.ntmps=n) (ha:args.length<=n) (live:au) (hg:Enters P g)
  (h:aP ⟨P,T,n,live,none⟩ c (me 0 args) [] w λe env ds w=>∃cap:aD,ds=[{ target:=.fn (.func g) cap.toArray,args:=#[] }]/\match e with
   | .ret=>CallsDIn (Fr none) 0 P g cap.toArray .returning w λe u' w'=>(∃v,e=.returned v)/\u'=.returning/\sP ⟨P,T,n,live,none⟩ fn.results.toList env w' λv=>K v w'
   | .panic ch=>∃x,ch=[{ v:=x,recovered:=false }]/\CallsDIn (Fr none) 0 P g cap.toArray (.panicking [{ v:=x,recovered:=false }]) w λe u' w'=>(∃v,e=.returned v)/\u'=.panicking [{ v:=x,recovered:=true }]/\sP ⟨P,T,n,live,none⟩ fn.results.toList env w' λv=>K v w'
   | _=>False):eD P f args.toArray w K:=by
 refine⟨.inl ⟨xe hf (by simp[hb]) hname,(BP (r:=none) (n:=0)).1 ?_⟩⟩;refine callsIn_of_wp_marks hf hb trivial ?_;have hs:Sat (me 0 args) (args.toArray++Array.replicate (fn.ntmps-args.toArray.size) undef):=Eo;refine wpIn_mono (h.out { tmps:=args.toArray++Array.replicate (fn.ntmps-args.toArray.size) undef,defers:=[] } hs (by simp;omega) rfl) ?_;rintro e a w'⟨h1,aJ,h2,cap,jT,h3⟩;have hinv:∀w,(invoke (.fn (.func g) cap.toArray) #[]).run P w=.ok (.enter g cap.toArray) w:=by
  intro w;have:=hg cap.toArray w;simpa [invoke]using this
 have fin:∀ {w'},(sP ⟨P,T,n,live,none⟩ fn.results.toList aJ w' λv=>K v w')->∃v,(results fn a.tmps).run P w'=.ok v w'/\K v w':=by
  intro w' h;exact GM (C:=⟨P,T,n,live,none⟩) hT h2 h
 cases e with
 | ret =>
  show LeavesInM _ _ _ _ _ _ a.defers _ _;rw[jT];refine⟨ai,.inr ⟨λh=>by simp[Fr,Fence.wide]at h,_,_,g,cap.toArray,rfl,hinv w',λ_ _=>trivial,h3.mono ?_⟩⟩;rintro e u' uH⟨⟨v,rfl⟩,rfl,hk⟩;obtain⟨v,hr,hk⟩:=fin hk;exact⟨v,hr,hk⟩
 | panic ch =>
  obtain⟨x,rfl,h3⟩:=h3;show LeavesInM _ _ _ _ _ _ a.defers _ _;rw[jT];refine⟨ai,.inr ⟨λh=>by simp[Fr,Fence.wide]at h,_,_,g,cap.toArray,rfl,hinv w',λ_ _=>trivial,h3.mono ?_⟩⟩;rintro e u' uH⟨⟨v,rfl⟩,rfl,hk⟩;obtain⟨v,hr,hk⟩:=fin hk;exact⟨v,hr,hk⟩
 | normal=>exact h3.elim
 | exit id=>exact h3.elim
 | goto l=>exact h3.elim
 | outgrown=>exact h3.elim
theorem T8(hT:bK C.P C.T)(hr:C.r=none){f:FuncId}{fn:Func}{args:aD}{id t u:Nat}{o1 o2:Oper}{x:Code}{m m':FrameMode}{v:ao}{w:ae}{R:Ending->FrameMode->ae->Prop}
  (hf:C.P.funcs[f]?=some fn) (hb:fn.body=some (.seq (.region id #[o1,o2] false) x)) (hn:fn.ntmps=C.n) (hl:args.length<=C.n)
  (h1:∀(a:Act) (w:ae),(execOp a.eval o1).run C.P w=.ok .recover w) (g1:o1.guard=none) (d1:o1.dst=some t) (h2:o2.op=.assign (.tmp t)) (g2:o2.guard=none) (d2:o2.dst=some u) (ht:t<C.n) (hu:u<C.n)
  (hm:∀(qp:Frame) cs,qp.mode=m->(recoverD (qp::cs)=some (v,{ qp with mode:=m' }::cs))\/(recoverD (qp::cs)=none/\v=.nilIface/\m'=m))
  (h:aP C x ((u,v)::(t,v)::me 0 args) [] w λe env ds w=>ds=[]/\(match e with
   | .normal=>sP C fn.results.toList env w λq=>R (.returned q) m' w
   | _=>False)):CallsDIn (Fr none) 0 C.P f args.toArray m w R:=by
 refine callsDIn_of_wpSIn hf hb trivial ?_;intro qp cs QZ;refine wpSIn_seq ?_;refine wpSIn_region ?_;have hs:Sat (me 0 args) (args.toArray++Array.replicate (fn.ntmps-args.toArray.size) undef):=Eo;generalize ha:({ tmps:=args.toArray++Array.replicate (fn.ntmps-args.toArray.size) undef,defers:=[] }:Act)=a;have hs:Sat (me 0 args) a.tmps:=by rw[<-ha];exact hs
 have hz:a.tmps.size=C.n:=by rw[<-ha];simp;omega
 have hd:a.defers=[]:=by rw[<-ha]
 show wpOpsSIn _ _ _ _ _ [0,1] _ _ _;have w1:Region.wanted o1 (yielded #[o1,o2] a.tmps)=true:=by simp[Region.wanted,g1]
 have key:∀Ir,Ir={ qp with mode:=m' }::cs->wpOpsSIn (Fr none) 0 C.P #[o1,o2] (Exit.thenS (x.wpSIn (Fr none) 0 C.P (bodyPostS C.P fn qp cs R)) (bodyPostS C.P fn qp cs R)) [1] (a.put o1.dst v) Ir w:=by
  intro Ir hcs;subst hcs;have w2:Region.wanted o2 (yielded #[o1,o2] (a.put o1.dst v).tmps)=true:=by simp[Region.wanted,g2]
  have ev:(a.put o1.dst v).eval (.tmp t)=v:=by
   rw[d1];have:t<a.tmps.size:=by rw[hz];exact ht
   simp[Act.eval,Act.put,Gu,this]
  simp only[wpOpsSIn];rw[show(#[o1,o2]:Array Oper)[1]?=some o2 from rfl];dsimp only;refine⟨λ_ _=>trivial,?_⟩;rw[if_pos w2];have hx:(execOp (a.put o1.dst v).eval o2).run C.P w=.ok (.value v) w:=by simp[execOp,h2,ev]
  rw[hx];show Code.wpSIn _ _ _ _ _ _ _ _;refine wpSIn_of_wpIn rfl ?_;have abr:Sat ((u,v)::(t,v)::me 0 args) ((a.put o1.dst v).put o2.dst v).tmps:=by
   rw[d1,d2];refine Sat.put (Sat.put hs (by rw[hz];exact ht) v) ?_ v;simp[Act.put,hz,hu]
  have:=h.out ((a.put o1.dst v).put o2.dst v) abr (by rw[d1,d2];simp[Act.put,hz]) (by rw[d1,d2];exact hd);rw[hr]at this;refine wpIn_mono this λe a' w' ⟨q1,aJ,q2,q3,q4⟩=>?_;cases e with
  | normal =>
   obtain⟨q,hq,hk⟩:=GM (C:=C) hT q2 q4;exact⟨q3,m',rfl,q,hq,hk⟩
  | ret=>exact q4.elim
  | panic ch=>exact q4.elim
  | exit id=>exact q4.elim
  | goto l=>exact q4.elim
  | outgrown=>exact q4.elim
 rw[wpOpsSIn,show(#[o1,o2]:Array Oper)[0]?=some o1 from rfl];dsimp only;refine⟨λ_ _=>trivial,?_⟩;rw[if_pos w1,h1];dsimp only;rcases hm qp cs QZ with h3|⟨h3,h4,h5⟩
 ·rw[h3];exact key _ rfl
 ·rw[h3];dsimp only;rw[<-h4];refine key _ ?_;rw[h5,<-QZ]
section
variable{V0 w0 V W w:ae}
abbrev aiP:aD:=[iv 0,iv 0,.slice none 0 0,.slice none 0 0,.slice none 0 0]
theorem Yt{b2 b3 b4:Nat}{c2:aD}{c3:ao}{c4:Bool}(h2:c2.length=5)(H:Rel w0 V0 [.ax b4 [.bool c4] 4,.ax b3 [c3] 195,.ax b2 c2 27] V w) :
  CallsDIn (Fr none) 0 Tryz.prog 243 [.pointer (some ⟨b2,0,none⟩),.pointer (some ⟨b3,0,none⟩),.pointer (some ⟨b4,0,none⟩)].toArray (.panicking [Bn]) w λe u' w'=>(∃v,e=.returned v)/\u'=.panicking [{ v:=Bn.v,recovered:=true }]/\Rel w0 V0 [.ax b4 [.bool false] 4,.ax b3 [.slice none 0 0] 195,.ax b2 aiP 27] V w':=by
 obtain⟨x0,x1,x2,x3,x4,rfl⟩:∃x0 x1 x2 x3 x4,c2=[x0,x1,x2,x3,x4]:=by
  match c2,h2 with
  | [x0,x1,x2,x3,x4],_=>exact⟨x0,x1,x2,x3,x4,rfl⟩
 refine T8 (C:=⟨Tryz.prog,sU,8,[0,1,2,3,6],none⟩) (t:=4) (u:=3) (v:=Bn.v) (m':=.panicking [{ v:=Bn.v,recovered:=true }]) ah rfl Tryz.func243 rfl rfl ai (λ_ _=>rfl) rfl rfl rfl rfl rfl ag ag (λqp cs h=>.inl (by simp[recoverD,h])) ?_;refine aP.dH ah ?_;refine wk ?_;refine aP.go ah ?_;refine H.wg ?_;clear H;intro _ _ w H;exact⟨⟨_,rfl⟩,rfl,H⟩
theorem Yu{b2 b3 b4:Nat}(H:Rel w0 V0 own V w) :
  CallsDIn (Fr none) 0 Tryz.prog 243 [.pointer (some ⟨b2,0,none⟩),.pointer (some ⟨b3,0,none⟩),.pointer (some ⟨b4,0,none⟩)].toArray .returning w λe u' w'=>(∃v,e=.returned v)/\u'=.returning/\Rel w0 V0 own V w':=by
 refine T8 (C:=⟨Tryz.prog,sU,8,[0,1,2,3,6],none⟩) (t:=4) (u:=3) (v:=.nilIface) (m':=.returning) ah rfl Tryz.func243 rfl rfl ai (λ_ _=>rfl) rfl rfl rfl rfl rfl ag ag (λqp cs h=>.inr ⟨by simp[recoverD,h],rfl,rfl⟩) ?_;refine aP.dH ah ?_;refine wk ?_;refine aP.go ah ?_;refine wk ?_;exact⟨⟨_,rfl⟩,rfl,H⟩
end
section
variable{V W w:ae}
theorem afq(hE:mW V)(hV:Sub V W){sl:Sl}{l:ad}(hs:ay V sl l)(hl:l.length<=1000):aC 160 [sl.v] W λq w'=>∃(V':ae) (h:VH) (r:Sl) (hs:List dt),Sub V V'/\Rel W V [] V' w'/\(match uA l with
  | none=>q=.tuple #[fb h,r.v,.bool false]
  | some (v,o)=>q=.tuple #[fb h,r.v,.bool true]/\bV V' h v/\aB jO V' r hs/\Pw ib V' hs o):=by
 have H:=Rel.start hV;refine X9 (g:=243) ah Tryz.func160 rfl aj 25 rfl ai [0,2,3,4,5] (xe Tryz.func243 aj aj) ?_;refine aP.dH ah ?_;refine wk ?_;refine H.nA ?_;clear H;intro w b2 H;refine wk ?_;refine H.nA ?_;clear H;intro w b3 H;refine wk ?_;refine H.nA ?_;clear H;intro w b4 H;refine wk ?_;refine aP.seq ?_;refine afu (g:=243) (d:=6) ah rfl rfl rfl rfl rfl rfl rfl ag ?_ rfl;conv=>whnf
 have H1:=H;clear H;have H:=Rel.start H1.data;refine aP.dH ah ?_;refine wk ?_;refine H.nA ?_;clear H;intro w b5 H;refine wk ?_;replace H:=(H.cb 206 2).swap;have hlen:=hs.len;refine aP.seq (afv ah [(2,.pointer (some ⟨b2,0,none⟩)),(3,.pointer (some ⟨b3,0,none⟩)),(4,.pointer (some ⟨b4,0,none⟩))] rfl sB ?_);refine wk ?_;refine cw.mono (VZ (l.length+1) _ _ _ _ [] b5 1000 sl ⟨none,0,0⟩ [] ⟨l,0,[],[]⟩ hE H ⟨hs,Pw.nil,by show 0+l.length<=1000;omega,aK _⟩ aa (yE _)) ?_ ?_;rotate_left
 ·intro ch w' hbad;refine⟨[.pointer (some ⟨b2,0,none⟩),.pointer (some ⟨b3,0,none⟩),.pointer (some ⟨b4,0,none⟩)],rfl,?_⟩;have hno:uA l=none:=by unfold uA;rw[hbad.why]
  refine⟨Bn.v,hbad.ch,(Yt rfl (H1.ext hbad.ext)).mono ?_⟩;rintro e u' uH⟨h1,h2,H2⟩;refine⟨h1,h2,?_⟩;clear H;have H:=H2;rw[hno];refine wk ?_;exact⟨V,eR,⟨none,0,0⟩,[],Sub.refl _,H.sx,rfl⟩
 rintro v w⟨v1,s',h1,bF,rfl,V1,r1,o1,hs1,hV1,gS,ou,H⟩;replace H:=H1.call H;simp only[eC,aL,aA]at H;refine H.wg ?_;clear H;intro w H;refine aP.dH ah ?_;refine wk ?_;refine(UF H gS aa true).use ?_;clear H;rintro v w⟨rfl,V2,r2,o2,dj,hV2,ff,_,H⟩;rw[if_pos rfl]at ff H;simp only[eC,aL,aA]at H;have gV:=ff.ol;have hoth:=ff.gy;have hr2:=ff.rest.len;have e:uA l=if(uy [10] s').rest=[]then some (v1,(uy [10] s').gy)else none:=by unfold uA;rw[bF]
 obtain⟨V3,aw,H,hb5⟩:=H.bt;obtain⟨V4,aG,H,ho2⟩:=H.aT (λ_=>rfl) ag;have c0:V4.cell? ⟨b5,0,none⟩=some r2.v:=aG.cell (hb5.bE rfl);have c3:V4.cell? ⟨b5,3,none⟩=some o2.v:=aG.cell (hb5.bE rfl);refine wk ?_;refine aP.dH ah ?_;(first|refine cz (id:=5) ah mixed (Kv V4) Kv.trans [11,12] [4,8] [0,1,2,3,4,5,6,7,8,9,10,11,12,13] [(11,[]),(12,[11]),(13,[11,12])] aj ?_);intro w aR;replace H:=Rel.ext H aR.ext;repeat' ((first|(refine H.uI ?_;clear H;intros;rename_i w H;constructor)|refine wk ?_);(first|refine Kv.go H ?_|refine Kv.go2 H (by assumption) ?_|(refine And.intro (λw1 hkp=>?_) ?_;focus ((first|have H:=Kv.in H hkp|have H:=Kv.gi H (by assumption) hkp);((repeat ((conv=>whnf);first|refine an ?_|refine H.ce ?_|refine H.db ?_|refine ea ?_|refine ol ?_|fail|refine cT ?_|refine cF ?_|refine cN ?_|refine cM ?_|refine H.lw ?_|refine H.ll ?_));(conv=>whnf));all_goals (first|exact⟨rfl,rfl⟩|exact rfl)))|refine And.intro ?_ ?_|(refine H.nA ?_;clear H;intro w _ H)))
 refine H.wh ?_;clear H;intro w H;refine aP.go ah ?_;conv=>whnf
 refine⟨[.pointer (some ⟨b2,0,none⟩),.pointer (some ⟨b3,0,none⟩),.pointer (some ⟨b4,0,none⟩)],rfl,(Yu H).mono ?_⟩;rintro q u' uH⟨q1,q2,H2⟩;refine⟨q1,q2,?_⟩;clear H;have H:=H2;refine wk ?_;refine⟨V4,h1,o2,dj,hV1.trans (hV2.trans (aw.trans aG)),H.sx,?_⟩;rw[e];by_cases h0:(uy [10] s').rest=[]
 ·rw[if_pos h0];have:r2.len=0:=by rw[hr2,h0];rfl
  rw[this];exact⟨rfl,ou.up (hV2.trans (aw.trans aG)),ho2,hoth.up ib.up (aw.trans aG)⟩
 ·rw[if_neg h0];have:r2.len≠0:=λe=>h0 (bL (hr2.symm.trans e));rw[decide_eq_false aa]
end
abbrev s5:=fL×Sl
abbrev zy(p:s5):aD:=[iv ((p.1.1:Nat):Int),p.2.v]
theorem XV{s:Sl}{hs:List dt}{o:List fL}(h:aB jO V s hs)(hp:Pw ib V hs o):∃ps:List s5,aB zy V s ps/\ps.map Prod.fst=o/\∀p∈ps,ay V p.2 p.1.2:=by
 have hl:=hp.len;refine⟨o.zip (hs.map Prod.snd),?_,?_,?_⟩
 ·have e:(o.zip (hs.map Prod.snd)).flatMap zy=hs.flatMap jO:=by
   clear h;induction hs generalizing o with
   | nil =>
    cases o with
    | nil=>rfl
    | cons y o=>simp at hl
   | cons x hs ih =>
    cases o with
    | nil=>simp at hl
    | cons y o =>
     have h0:=(hp.all 0 x y rfl rfl).1;have ht:Pw ib V hs o:=⟨by simpa using hl,λk a b h1 h2=>hp.all (k+1) a b h1 h2⟩
     rw[List.map_cons,List.zip_cons_cons,bz,bz,ih ht (by simpa using hl)];simp only[zy,jO,h0]
  exact⟨by rw[h.len];simp[hl],h.cap,by rw[e];exact h.cells⟩
 ·rw[List.map_fst_zip];simp[hl]
 ·intro p xT;obtain⟨i,hi⟩:=List.mem_iff_getElem?.1 xT;rw[List.getElem?_zip_eq_some]at hi;obtain⟨h1,h2⟩:=hi;rw[eu]at h2;obtain⟨x,hx,h3⟩:=il.1 h2;rw[<-h3];exact(hp.all i x p.1 hx h1).2
section
variable{V W:ae}
theorem ZY{p:s5}(hV:Sub V W)(hb:ay V p.2 p.1.2)(h1:p.1.1<=100000)(h2:p.1.2.length<=100000):aC 247 [.agg (zy p).toArray] W λv w'=>∃r:Sl,v=r.v/\Rel W V [.row r 5 1 ((gm p.1).flatMap aE)] V w':=by
 have H:=Rel.start hV;have a1:=fj (n:=((p.1.1:Nat):Int)) aa aa;have a2:=yz (b:=p.1.2) aa;refine eV Tryz.func247 10 [0,1,2] ?_;refine wk ?_;refine H.nA ?_;clear H;intro w b1 H;obtain⟨V1,hV1,H,fE⟩:=H.bt;have c0:V1.cell? ⟨b1,0,none⟩=some (iv ((p.1.1:Nat):Int)):=fE.bE rfl;have c1:V1.cell? ⟨b1,1,none⟩=some p.2.v:=fE.bE rfl;refine wk ?_;refine dV 1 [2] [0,1,3,4,2,5,6,7] H ?_;clear H;intro w H;refine wk ?_;refine(iQ H.data (by constructor<;>omega)).use ?_;rintro v w⟨r1,rfl,K⟩;(replace H:=Rel.call H K);simp only[aL,aA]at H;refine wk ?_;refine(zF H.data (hb.up hV1) aa).use ?_;rintro v w⟨r2,rfl,K⟩;(replace H:=Rel.call H K);simp only[aL,aA]at H;refine wk ?_;refine Rel.dD H (i:=0) rfl aa ?_;clear H;intro r3 w H;refine wk ?_;exact⟨r3,rfl,H.sx.back⟩
theorem agC(hV:Sub V W){s:Sl}{l:List s5}(hs:aB zy V s l){g:FuncId}{cap:aD}{enc:s5->ad}(hone:∀x∈l,uK V g cap ((λp=>.agg (zy p).toArray) x) (enc x))(hll:l.length<=1099511627776)(hb:(bY enc l).length<=1099511627776) :
  aC 246 [s.v,.func (.func g) #[] cap.toArray] W λv w'=>∃r:Sl,v=r.v/\Rel W V [.row r 5 1 ((bY enc l).flatMap aE)] V w':=by
 have H:=Rel.start hV;have hlen:=hs.len;rw[bY,aq]at hb;refine eV Tryz.func246 24 [0,1,4,5,7,11,12,13,14] ?_;refine wk ?_;rw[hlen];refine(iQ (n:=l.length) H.data (by constructor<;>omega)).use ?_;rintro v w⟨r0,rfl,K⟩;replace H:=H.call K;refine wk ?_;refine aY (S:=Nat×Sl) ah [0,1,4,11,12] (λk=>[(5,k.2.v),(13,iv k.1)]) (λk w'=>k.1<=l.length/\∃V1,Sub V V1/\Rel W V [.row k.2 5 1 ((aM l.length++(l.take k.1).flatMap enc).flatMap aE)] V1 w') (λk _=>l.length-k.1) (0,r0) ?_;conv=>whnf
 refine⟨sB,⟨aa,V,Sub.refl _,by simpa using H⟩,?_⟩;clear H;rintro⟨k,r⟩w⟨hk,V1,hV1,H⟩;dsimp only at hk H;by_cases hlt:k<l.length;rotate_left
 ·refine wk ?_;rw[bR aa]at H;exact⟨r,rfl,H.back⟩
 have hbl:=EW (enc:=enc) hlt;obtain⟨hp,nk,jy⟩:=(hs.up hV1).fM (g:=λr:s5=>iv ((r.1.1:Nat):Int)) (g':=λr:s5=>r.2.v) (λ_=>rfl) hlt;refine H.wg ?_;clear H;intro _ _ w H;refine(hone l[k] (cj hlt) V1 w hV1 H.data).use ?_;rintro v w⟨V2,x,hV2,rfl,hx,K⟩;replace H:=H.call K;simp only[aA]at H;refine wk ?_;refine Rel.eJ H (i:=1) rfl hx (by simp only[aq];omega) ?_;clear H;intro rn w H;rw[EV hlt]at H;refine wk ?_;exact⟨sB,(k+1,rn),sB,⟨aa,V2,hV1.trans hV2,H.sx⟩,aa⟩
theorem Z0(hV:Sub V W){s:Sl}{hs:List dt}{o:List fL}(h:aB jO V s hs)(hp:Pw ib V hs o)(hl:o.length<=1000)(hb:∀x∈o,x.1<=2000/\x.2.length<=1000):aC 161 [s.v] W λv w'=>∃(V':ae) (r:Sl),Sub V V'/\v=r.v/\ay V' r (oN o)/\Rel W V [] V' w':=by
 have H:=Rel.start hV;obtain⟨ps,h1,h2,h3⟩:=XV h hp;have hsl:=h1.len;have hpl:ps.length=o.length:=by rw[<-h2];simp
 have tQ:bY (λp:s5=>gm p.1) ps=bY gm o:=by
  rw[<-h2];simp only[bY,List.length_map,List.flatMap_map]
 have Am:(bY gm o).length<=70000000:=by
  have:=vI (f:=gm) (m:=2000) (l:=o) aa λx hx=>by
   obtain⟨a,b⟩:=hb x hx;have h1:=fj (n:=(x.1:Int)) aa aa;have h2:=yz (b:=x.2) aa;simp only[gm,aq];omega
  have h3:=iD 2000 hl;omega
 have hmem:∀p∈ps,p.1∈o:=λp hp=>by rw[<-h2];exact List.mem_map.2 ⟨p,hp,rfl⟩
 refine eV Tryz.func161 8 [0,2,5] ?_;by_cases h0:o=[]
 ·have:s.len=0:=by rw[hsl,hpl,h0];rfl
  refine wk ?_;refine⟨V,⟨none,0,0⟩,Sub.refl _,rfl,?_,H.sx⟩;rw[oN,if_pos h0];exact aB.nil _ _
 ·have:s.len≠0:=by rw[hsl,hpl];exact λh=>h0 (bL h)
  refine wk ?_;refine(agC H.data h1 (enc:=λp:s5=>gm p.1) (g:=247) (cap:=[]) (λp hp=>F0 λV1 W1 q1 q2=>ZY q1 ((h3 p hp).up q2) (by have:=hb _ (hmem p hp);omega) (by have:=hb _ (hmem p hp);omega)) aa (by rw[tQ];omega)).use ?_;rintro v w⟨r,rfl,K⟩;(replace H:=Rel.call H K);simp only[aL,aA]at H;refine wk ?_;obtain⟨V2,hV2,H,hr⟩:=H.aT (λ_=>rfl) ag;rw[tQ]at hr;exact⟨V2,r,hV2,rfl,by rw[oN,if_neg h0];exact hr,H.sx⟩
end
set_option maxRecDepth 100000 in
set_option maxHeartbeats 1000000 in
theorem afk(hV:Sub V W){s:Sl}{l:ad}(hs:ay V s l)(hl:l.length<=1099511627776){p:Nat}(hp:p<=l.length){m:Int}(hm:0<=m/\m<=4294967296){g:FuncId}{cap:aD}{one:Nat->gH (Int×ad)}
  (hone:∀q,q<=l.length->Reads V g cap s (λp:dt=>.agg (jO p).toArray) (λV x y=>x.1=y.1/\ay V x.2 y.2) q (one q)) (hin:∀q x q',q<=l.length->one q=.ok x q'->q'<=l.length) :
  aC 248 [s.v,iv p,iv m,.func (.func g) #[] cap.toArray] W (Bz Sl.v (RL jO (λV x y=>x.1=y.1/\ay V x.2 y.2)) W V (bX l one m p)):=by
 have H:=Rel.start hV;have hlen:=hs.len;have hR:∀(V V':ae) (x:dt) (y:(Int×ad)),Sub V V'->((λV x y=>x.1=y.1/\ay V x.2 y.2):ae->dt->(Int×ad)->Prop) V x y->((λV x y=>x.1=y.1/\ay V x.2 y.2):ae->dt->(Int×ad)->Prop) V' x y:=λ_ _ _ _ hs h=>⟨h.1,h.2.up hs⟩
 refine eV Tryz.func248 64 [0,1,2,3,8,9,10,11,12,13,14,15,16,17,25,30,40,41,42,53] ?_;refine wk ?_;refine H.nA ?_;clear H;intro w ix H;refine wk ?_;refine(mN H.data hs hl hp).use ?_;rintro v w⟨rfl,K⟩;replace H:=H.call K;simp only[aA]at H;cases hn:cD l p with
 | bad c i =>
  have dR:=mH hn;have hr:bX l one m p=.bad c i:=by rw[bX,hn]
  rw[hr];refine wk ?_;refine H.nA ?_;clear H;intro w iX H;refine H.wg ?_;clear H;intro w H;(first|refine dV 3 [] [0,1,2,3] H ?_|refine dV 11 [] [0,1,2,3] H ?_);clear H;intro w H;refine H.wg ?_;clear H;intro w H;exact⟨V,⟨none,0,0⟩,0,c,i,Sub.refl _,H.sx,rfl,rfl,rfl,dR⟩
 | ok n q0 =>
  obtain⟨h1,h2,h3,h4,h5⟩:=eX hp hn;refine wk ?_;refine H.nA ?_;clear H;intro w iX H;by_cases hb:n<0\/m<n
  ·have hr:bX l one m p=.bad 4 p:=by rw[bX,hn];simp only;rw[if_pos hb]
   rw[hr];by_cases hn0:n<0
   all_goals
    refine H.wg ?_;clear H;intro w H;refine(tt H.data 4 p).use ?_;rintro v w⟨rfl,K⟩;replace H:=H.call K;simp only[aA]at H;refine H.wg ?_;clear H;intro w H;exact⟨V,⟨none,0,0⟩,0,4,p,Sub.refl _,H.sx,rfl,rfl,rfl,ag⟩
  have hr:bX l one m p=dK one n.toNat q0:=by rw[bX,hn];simp only;rw[if_neg hb]
  rw[hr];obtain⟨N,rfl⟩:∃N:Nat,n=N:=⟨n.toNat,aa⟩
  rw[Int.toNat_natCast];refine H.wg ?_;clear H;intro w H;replace H:=H.cb 206 2;refine aY (S:=Nat×Nat×Sl×List dt×List (Int×ad)) ah [0,1,2,3,10,11,13,25,30,40] (λk=>[(12,iv k.2.1),(14,k.2.2.1.v),(41,iv k.1)]) (λk w'=>k.1<=N/\k.2.1<=l.length/\k.2.2.2.1.length=k.1/\dK one k.1 q0=.ok k.2.2.2.2 k.2.1/\∃V1,Sub V V1/\Pw (λV x y=>x.1=y.1/\ay V x.2 y.2) V1 k.2.2.2.1 k.2.2.2.2/\Rel W V [.row k.2.2.1 206 2 (k.2.2.2.1.flatMap jO),.ax iX [iv 0,iv 0] 31,.ax ix [iv 0,iv 0] 31] V1 w') (λk _=>N-k.1) (0,q0,⟨none,0,0⟩,[],[]) ?_;conv=>whnf
  refine⟨sB,⟨aa,h2,rfl,rfl,V,Sub.refl _,Pw.nil,H.sx⟩,?_⟩;clear H;rintro⟨k,q,r,xs,ys⟩w⟨hk,hq,hxl,j0,V1,hV1,hpw,H⟩;dsimp only at hk hq hxl j0 hpw H;by_cases hlt:k<N;rotate_left
  ·obtain rfl:k=N:=aa;refine H.wg ?_;clear H;intro w H;obtain⟨V2,hV2,H,fw⟩:=Rel.aT H (λ_=>rfl) ag;rw[j0];exact⟨V2,r,q,0,0,hV1.trans hV2,H.sx,rfl,rfl,rfl,rfl,xs,fw,hpw.up hR hV2⟩
  refine wk ?_;refine(hone q hq V1 w hV1 H.data).use ?_;rintro v w⟨V2,x,n2,c,i,hV2,K,rfl,hres⟩;replace H:=H.call K;simp only[aA]at H;cases ho:one q with
  | bad c' i' =>
   rw[ho]at hres;obtain⟨rfl,rfl,dR⟩:=hres;have sf:dK one N q0=.bad c i:=by
    have:=Dg j0 ho (N-(k+1));rwa [show k+1+(N-(k+1))=N by omega]at this
   rw[sf];refine H.wg ?_;clear H;intro _ _ _ _ _ w H;(first|refine dV 3 [] [0,1,2,3] H ?_|refine dV 11 [] [0,1,2,3] H ?_);clear H;intro w H;refine H.wg ?_;clear H;intro w H;exact⟨V2,⟨none,0,0⟩,0,c,i,hV1.trans hV2,H.sx,rfl,rfl,rfl,dR⟩
  | ok y q' =>
   rw[ho]at hres;obtain⟨rfl,rfl,rfl,mG⟩:=hres;have qJ:=hin q y q' hq ho;refine H.wg ?_;clear H;intro _ _ _ _ _ _ _ w H;refine Rel.uN (f:=jO) (l:=xs) (x:=x) ah rfl rfl rfl rfl rfl ag (λ_=>rfl) (List.all_eq_true.1 rfl) H (by simp;omega) aa ?_;clear H;intro rn w H;refine wk ?_;exact⟨sB,(k+1,q',rn,xs++[x],ys++[y]),sB,⟨aa,qJ,by simp[hxl],FQ j0 ho,V2,hV1.trans hV2,(hpw.up hR hV2).snoc mG,H.sx⟩,aa⟩
abbrev WA(V:ae)(x:dt)(y:Int×ad):Prop:=x.1=y.1/\ay V x.2 y.2
theorem u4(hV:Sub V W)(c i:Int):aC 159 [iv c,iv i] W λv w'=>v=kg c i/\Rel W V [] V w':=by
 have H:=Rel.start hV;refine eV Tryz.func159 8 [0,1,4] ?_;refine H.wg ?_;clear H;intro _ _ w H;exact H.sx
theorem ae6{s:Sl}(hs:ay V s l)(hl:l.length<=1099511627776){p:Nat}(hp:p<=l.length):Reads V 249 [] s (λp:dt=>.agg (jO p).toArray) WA p (nD l p):=by
 intro V1 W1 h1 h2;have H:=Rel.start h2;have hs1:=hs.up h1;have hlen:=hs1.len;refine eV Tryz.func249 34 [0,1,4,5,6,7,8,9,19] ?_;refine wk ?_;refine H.nA ?_;clear H;intro w b4 H;refine wk ?_;refine H.nA ?_;clear H;intro w b6 H;refine wk ?_;refine(mN H.data hs1 hl hp).use ?_;rintro v w⟨rfl,K⟩;(replace H:=H.az K);cases hn:cD l p with
 | bad c i =>
  have dR:=mH hn;have hr:nD l p=.bad c i:=by rw[nD,hn]
  rw[hr];refine wk ?_;refine H.nA ?_;clear H;intro w b8 H;refine H.wg ?_;clear H;intro w H;(first|refine lA (id:=3) ah mixed (dB [b4]) (λ_ _ _=>dB.trans) [2] [1] [0,1,2,3,4] aj ?_|refine lA (id:=5) ah mixed (dB [b4]) (λ_ _ _=>dB.trans) [5] [4] [0,1,2,3,4,5,6,7] aj ?_);intro w aR;replace H:=Rel.ext H aR.ext;refine wk ?_;refine And.intro (λw1 kU=>?_) ?_;focus (obtain⟨_,H1⟩:=Rel.ux H (i:=2) rfl rfl kU;clear H;have H:=H1;clear H1;((repeat ((conv=>whnf);first|refine an ?_|((first|refine H.pH ?_|refine H.nw ?_);clear H;intro w _ H)|refine H.ce ?_|refine H.db ?_|refine ea ?_|refine ol ?_|(refine H.st ?_;(conv=>whnf);clear H;intro w H)|refine cT ?_|refine cF ?_|refine cN ?_|refine cM ?_|refine H.lw ?_|refine H.ll ?_));(conv=>whnf));try exact⟨rfl,rfl⟩)
  refine wk ?_;refine Rel.uz H (i:=2) rfl ?_;(conv=>whnf);clear H;intro w H;refine H.wg ?_;clear H;intro w H;exact⟨V1,(0,⟨none,0,0⟩),0,c,i,Sub.refl _,H.sx,rfl,rfl,rfl,dR⟩
 | ok n q =>
  obtain⟨g1,g2,g3,g4,g5⟩:=eX hp hn;refine wk ?_;refine H.nA ?_;clear H;intro w b8 H;refine H.wg ?_;clear H;intro w H;refine(T3 (p:=q) H.data hs1 hl aa).use ?_;rintro v w⟨V2,x,ys,n2,c,i,hV2,K,rfl,hx,hres⟩;(replace H:=H.az K);refine H.wg ?_;clear H;intro w H;(first|refine lA (id:=3) ah mixed (dB [b4]) (λ_ _ _=>dB.trans) [2] [1] [0,1,2,3,4] aj ?_|refine lA (id:=5) ah mixed (dB [b4]) (λ_ _ _=>dB.trans) [5] [4] [0,1,2,3,4,5,6,7] aj ?_);intro w aR;replace H:=Rel.ext H aR.ext;refine wk ?_;refine And.intro (λw1 kU=>?_) ?_;focus (obtain⟨_,H1⟩:=Rel.ux H (i:=2) rfl rfl kU;clear H;have H:=H1;clear H1;((repeat ((conv=>whnf);first|refine an ?_|((first|refine H.pH ?_|refine H.nw ?_);clear H;intro w _ H)|refine H.ce ?_|refine H.db ?_|refine ea ?_|refine ol ?_|(refine H.st ?_;(conv=>whnf);clear H;intro w H)|refine cT ?_|refine cF ?_|refine cN ?_|refine cM ?_|refine H.lw ?_|refine H.ll ?_));(conv=>whnf));try exact⟨rfl,rfl⟩)
  refine wk ?_;refine Rel.uz H (i:=2) rfl ?_;(conv=>whnf);clear H;intro w H;refine H.wg ?_;clear H;intro w H;refine⟨V2,(n,x),n2,c,i,hV2,H.sx,rfl,?_⟩;rw[nD,hn];simp only;cases hch:kJ l q with
  | bad c' i' =>
   rw[hch]at hres;exact hres
  | ok d r =>
   rw[hch]at hres;obtain⟨e1,e2,e3,e4⟩:=hres;subst e4;exact⟨e1,e2,e3,rfl,hx⟩
theorem adK:∀q x q',q<=l.length->nD l q=.ok x q'->q'<=l.length:=λq x q' hq h=>(SO hq h).2.1
section
variable{V W:ae}
structure WZ(W V:ae)(o:Option (List fL))(q:ao)(w':ae):Prop where
 ex:∃(V':ae) (r:Sl) (hs:List dt),Sub V V'/\Rel W V [] V' w'/\(match o with
  | none=>q=.tuple #[.slice none 0 0,.bool false]
  | some Z=>q=.tuple #[r.v,.bool true]/\aB jO V' r hs/\Pw ib V' hs Z)
theorem FX(hk:k<z.length)(h:¬((0<=z[k].1/\z[k].1<=2000)/\∀c∈z[k].2,cf c=true)):¬okB z:=λq=>h (q.1 _ (cj hk))
theorem ads(hk:k<z.length)(h0:0<k)(h:z[k].1<=(z[k-1]'aa).1):¬okB z:=λq=>by
 have:=vK.1 q.2 (k-1) k aa hk aa;omega
theorem SB(hk:k<z.length)(h:okB (z.take k))(h1:(0<=z[k].1/\z[k].1<=2000)/\∀c∈z[k].2,cf c=true)(h2:∀h0:0<k,(z[k-1]'aa).1<z[k].1):okB (z.take (k+1)):=by
 rw[bZ hk];refine⟨λx hx=>?_,List.pairwise_append.2 ⟨h.2,ai,λa ha b hb=>?_⟩⟩
 ·rcases cq.1 hx with hx|hx
  ·exact h.1 x hx
  ·simp only[cv]at hx;rw[hx];exact h1
 ·simp only[cv]at hb;rw[hb];obtain⟨i,hi,rfl⟩:=List.mem_iff_getElem.1 ha;rw[bb]at hi;have h3:=h2 aa;by_cases hik:i=k-1
  ·subst hik;rw[vQ];exact h3
  ·have:=vK.1 h.2 i (k-1) (by rw[bb];omega) (by rw[bb];omega) aa;rw[vQ,vQ]at this;rw[vQ];omega
theorem aeW{b:ad}(h:qc b=some z):∀x∈z,x.2.length<=b.length:=by
 intro x hx;have h1:=congrArg List.length (MO h).1;obtain⟨A,B,rfl⟩:=List.append_of_mem hx;have h2:=Ta x.2;simp only[bY,bT,bz,aq]at h1;omega
theorem afg(hV:Sub V W){s:Sl}{b:ad}(hs:ay V s b)(hl:b.length<=1099511627776):aC 162 [s.v] W (WZ W V (jK b)):=by
 have H:=Rel.start hV;have hlen:=hs.len;refine eV Tryz.func162 71 [0,2,3,4,5,6,7,8,11,31,32,33,34,35,68] ?_;by_cases h0:b=[]
 ·have:s.len=0:=by rw[hlen,h0];rfl
  refine wk ?_;refine⟨V,⟨none,0,0⟩,[],Sub.refl _,H.sx,?_⟩;rw[jK,if_pos h0];exact⟨rfl,aB.nil _ _,Pw.nil⟩
 have:s.len≠0:=by rw[hlen];exact λh=>h0 (bL h)
 have e:jK b=match qc b with
  | none=>none
  | some z=>if z≠[]/\okB z then some (z.map λx=>(x.1.toNat,x.2))else none:=by unfold jK;rw[if_neg h0];rfl
 refine wk ?_;refine(afk (m:=1000) (p:=0) (g:=249) (cap:=[]) (one:=nD b) H.data hs hl (cu _) aa (λq hq=>ae6 hs hl hq) adK).use ?_;rintro v w⟨V2,x,n,c,i,hV2,K,rfl,hres⟩;(replace H:=H.az K);have bad:qc b=none->jK b=none:=λh=>by rw[e,h]
 cases gu:bX b (nD b) 1000 0 with
 | bad c' i' =>
  rw[gu]at hres;obtain⟨rfl,rfl,dR⟩:=hres;have hn:jK b=none:=bad (by unfold qc;rw[gu]);refine wk ?_;refine H.nA ?_;clear H;intro w b6 H;refine H.wg ?_;clear H;intro w H;exact⟨V2,x,[],hV2,H.sx,by rw[hn]⟩
 | ok z q =>
  rw[gu]at hres;obtain⟨rfl,rfl,rfl,hh,pC,hpw⟩:=hres;have hxl:=pC.len;have ov:=hpw.len;by_cases hq:q=b.length;rotate_left
  ·have hn:jK b=none:=bad (by unfold qc;rw[gu];simp only;rw[if_neg hq]);refine wk ?_;refine H.nA ?_;clear H;intro w b6 H;refine H.wg ?_;clear H;intro w H;exact⟨V2,x,[],hV2,H.sx,by rw[hn]⟩
  have gW:qc b=some z:=by unfold qc;rw[gu];simp only;rw[if_pos hq]
  obtain⟨_,ajr⟩:=MO gW;rw[gW]at e;dsimp only at e;by_cases hz:z=[]
  ·have hn:jK b=none:=by rw[e,if_neg (λh=>h.1 hz)]
   have:x.len=0:=by rw[hxl,ov,hz];rfl
   refine wk ?_;refine H.nA ?_;clear H;intro w b6 H;refine H.wg ?_;clear H;intro w H;exact⟨V2,x,[],hV2,H.sx,by rw[hn]⟩
  have:x.len≠0:=by rw[hxl,ov];exact λh=>hz (bL h)
  refine wk ?_;refine H.nA ?_;clear H;intro w b6 H;refine H.wg ?_;clear H;intro w H;refine aP.cut 0 (λ_:Unit=>[(4,x.v)]) (λ_ w'=>okB z/\Rel W V [] V2 w') ?_ ?_
  ·refine aY (S:=Nat) ah [0,4,5,6,11,31,32,33] (λk=>[(34,iv (k:Int))]) (λk w'=>(k<=z.length/\okB (z.take k))/\Rel W V [] V2 w') (λk _=>z.length-k) 0 ?_;conv=>whnf
   refine⟨sB,⟨⟨cu _,by simp[okB]⟩,H.sx⟩,?_⟩;clear H;rintro k w⟨⟨hk,hok⟩,H⟩;by_cases hlt:k<z.length;rotate_left
   ·rw[bR aa]at hok;refine wk ?_;exact⟨(),sB,hok,H⟩
   have jZ:k<hh.length:=aa;obtain⟨p1,c1,c2⟩:=pC.fM (g:=λr:dt=>iv r.1) (g':=λr:dt=>r.2.v) (λ_=>rfl) jZ;obtain⟨y,hy⟩:∃y,y=hh[k]:=⟨_,rfl⟩
   have hyz:=hpw.all k y z[k] (by rw[a8 jZ,hy]) (a8 hlt);obtain⟨tV,tW⟩:=hyz;rw[<-hy]at c1 c2;have sw:=tW.len;have As:=aeW gW _ (cj hlt);refine wk ?_;refine H.nA ?_;clear H;intro w b8 H;refine H.wg ?_;clear H;intro w H;by_cases ha:0<=y.1;rotate_left
   ·refine dV 9 [] [0,1,2,3,4,5,6,7,8,9,10,11,12,13,14,15,16,17,18,19,20,21,22,23,24,25,26,27,28,29] H ?_;clear H;intro w H;refine wk ?_;exact⟨V2,x,[],hV2,H.sx,by rw[e,if_neg (λh=>(FX hlt (λh=>ha (by rw[tV];exact h.1.1))) h.2)]⟩
   by_cases hb:y.1<=2000;rotate_left
   ·refine dV 9 [] [0,1,2,3,4,5,6,7,8,9,10,11,12,13,14,15,16,17,18,19,20,21,22,23,24,25,26,27,28,29] H ?_;clear H;intro w H;refine wk ?_;exact⟨V2,x,[],hV2,H.sx,by rw[e,if_neg (λh=>(FX hlt (λh=>hb (by rw[tV];exact h.1.2))) h.2)]⟩
   have ajq:y.2.len=z[k].2.length:=sw;have Rt:ay V2 y.2 z[k].2:=tW;have tail:(∀h0:0<k,(z[k-1]'aa).1<z[k].1)->True:=λ_=>trivial;by_cases h0:0<k
   ·have QW:k-1<hh.length:=aa;obtain⟨p2,d1,d2⟩:=pC.fM (g:=λr:dt=>iv r.1) (g':=λr:dt=>r.2.v) (λ_=>rfl) QW;obtain⟨u,hu⟩:∃u,u=hh[k-1]:=⟨_,rfl⟩
    have Rk:=(hpw.all (k-1) u (z[k-1]'aa) (by rw[a8 QW,hu]) (a8 aa)).1;rw[<-hu]at d1;replace d1:V2.cell? ⟨bD x.a,placeOf (bw x.a) ((k:Int)-1).toNat 2+0,none⟩=some (iv u.1):=by
     rw[show((k:Int)-1).toNat=k-1 by omega,Ld];exact d1
    by_cases hle:y.1<=u.1
    ·refine dV 9 [] [0,1,2,3,4,5,6,7,8,9,10,11,12,13,14,15,16,17,18,19,20,21,22,23,24,25,26,27,28,29] H ?_;clear H;intro w H;refine wk ?_;exact⟨V2,x,[],hV2,H.sx,by rw[e,if_neg (λh=>(ads hlt h0 (by rw[<-Rk,<-tV];exact hle)) h.2)]⟩
    refine dV 9 [] [0,1,2,3,4,5,6,7,8,9,10,11,12,13,14,15,16,17,18,19,20,21,22,23,24,25,26,27,28,29] H ?_;clear H;intro w H;refine wk ?_;refine(D1 H.data Rt aa (cs:=[32,9,13,10]) ag ag ag).use ?_;rintro v w⟨⟨t,rfl,ht⟩,K⟩;(replace H:=H.az K);rw[Et]at ht;have htl:=ht.len;by_cases hbk:z[k].2.dropWhile cf=[]
    ·have:t.len=0:=by rw[htl,hbk];rfl
     refine wk ?_;exact⟨sB,k+1,sB,⟨⟨aa,SB hlt hok ⟨⟨by rw[<-tV];exact ha,by rw[<-tV];exact hb⟩,(dropWhile_nil hbk).1⟩ (λ_=>by rw[<-tV,<-Rk];omega)⟩,H.sx⟩,aa⟩
    ·have:t.len≠0:=by rw[htl];exact λh=>hbk (bL h)
     refine wk ?_;exact⟨V2,x,[],hV2,H.sx,by rw[e,if_neg (λh=>(FX hlt (λh=>hbk (by simpa using(Hc (p:=cf) h.2 (t:=[]) (λc r e=>by cases e)).2))) h.2)]⟩
   ·refine dV 9 [] [0,1,2,3,4,5,6,7,8,9,10,11,12,13,14,15,16,17,18,19,20,21,22,23,24,25,26,27,28,29] H ?_;clear H;intro w H;refine wk ?_;refine(D1 H.data Rt aa (cs:=[32,9,13,10]) ag ag ag).use ?_;rintro v w⟨⟨t,rfl,ht⟩,K⟩;(replace H:=H.az K);rw[Et]at ht;have htl:=ht.len;by_cases hbk:z[k].2.dropWhile cf=[]
    ·have:t.len=0:=by rw[htl,hbk];rfl
     refine wk ?_;exact⟨sB,k+1,sB,⟨⟨aa,SB hlt hok ⟨⟨by rw[<-tV];exact ha,by rw[<-tV];exact hb⟩,(dropWhile_nil hbk).1⟩ (λh=>absurd h h0)⟩,H.sx⟩,aa⟩
    ·have:t.len≠0:=by rw[htl];exact λh=>hbk (bL h)
     refine wk ?_;exact⟨V2,x,[],hV2,H.sx,by rw[e,if_neg (λh=>(FX hlt (λh=>hbk (by simpa using(Hc (p:=cf) h.2 (t:=[]) (λc r e=>by cases e)).2))) h.2)]⟩
  ·clear H;rintro _ w⟨hok,H⟩;refine wk ?_;refine⟨V2,x,hh,hV2,H.sx,?_⟩;rw[e,if_pos ⟨hz,hok⟩];refine⟨rfl,pC,by simpa using ov,λi a y h1 h2=>?_⟩;rw[eu]at h2;obtain⟨q,hq,rfl⟩:=il.1 h2;obtain⟨g1,g2⟩:=hpw.all i a q h1 hq;have:=(hok.1 q (List.mem_of_getElem? hq)).1;exact⟨by rw[g1];dsimp only;omega,g2⟩
theorem Vh(hV:Sub V W)(hE:mW V){s:Sl}{l:ad}(hs:ay V s l)(hl:l.length<=1099511627776):aC 67 [s.v] W (l9 W V (br (gO l) l.length)):=by
 have H:=Rel.start hV;have hlen:=hs.len;refine eV Tryz.func67 33 [0,2,3,4,5,6,7,10,26] ?_;refine wk ?_;refine H.nA ?_;clear H;intro w b2 H;refine wk ?_;refine H.nA ?_;clear H;intro w b4 H;by_cases hbig:1000<l.length
 ·have e:br (gO l) l.length=⟨zeroV,[],3, -1⟩:=by unfold br;rw[if_pos hbig]
  rw[e];refine wk ?_;refine(u4 H.data 3 (-1)).use ?_;rintro v w⟨rfl,K⟩;(replace H:=Rel.call H K);simp only[aA]at H;refine H.wg ?_;clear H;intro _ w H;exact⟨V,eR,⟨none,0,0⟩,Sub.refl _,H.sx,rfl,lu _,aB.nil _ _⟩
 refine wk ?_;refine(afq hE H.data hs aa).use ?_;rintro v w⟨V2,h,r,hh,hV2,K,hres⟩;(replace H:=Rel.call H K);simp only[aA]at H;cases hf:uA l with
 | none =>
  rw[hf]at hres;obtain rfl:=hres;have e:br (gO l) l.length=⟨zeroV,[],21, -1⟩:=by unfold br;rw[if_neg hbig,gO,hf]
  rw[e];refine wk ?_;refine H.nA ?_;clear H;intro w b5 H;refine H.wg ?_;clear H;intro w H;refine(u4 H.data 21 (-1)).use ?_;rintro v w⟨rfl,K⟩;(replace H:=Rel.call H K);simp only[aA]at H;refine H.wg ?_;clear H;intro _ w H;exact⟨V2,eR,⟨none,0,0⟩,hV2,H.sx,rfl,lu _,aB.nil _ _⟩
 | some y =>
  obtain⟨vv,o⟩:=y;rw[hf]at hres;obtain⟨rfl,hv,hr,hp⟩:=hres;obtain⟨L,lb,F,rfl⟩:=Vm hf;obtain⟨q1,q2,q3,q4⟩:=F.bounds aa;have Jo:=F.vb aa;have hto:gO l=if(bI vv).1=0 then some (vv,oN (pJ L lb))else none:=by unfold gO;rw[hf]
  refine wk ?_;refine H.nA ?_;clear H;intro w b5 H;refine H.wg ?_;clear H;intro w H;refine(qe H.data hv Jo).use ?_;rintro q w⟨rfl,K⟩;(replace H:=Rel.call H K);simp only[aA]at H;by_cases bP:(bI vv).1=0;rotate_left
  ·have e:br (gO l) l.length=⟨zeroV,[],21, -1⟩:=by unfold br;rw[if_neg hbig,hto,if_neg bP]
   rw[e];refine wk ?_;refine(u4 H.data 21 (-1)).use ?_;rintro v w⟨rfl,K⟩;(replace H:=Rel.call H K);simp only[aA]at H;refine H.wg ?_;clear H;intro _ w H;exact⟨V2,eR,⟨none,0,0⟩,hV2,H.sx,rfl,lu _,aB.nil _ _⟩
  have e:br (gO l) l.length=⟨vv,oN (pJ L lb),0,0⟩:=by unfold br;rw[if_neg hbig,hto,if_pos bP]
  rw[e,oQ bP];refine wk ?_;refine dV 6 [2] [0,1,3,2,4,5,6] H ?_;clear H;intro w H;refine wk ?_;refine(Z0 H.data hr hp q1 (λx hx=>by have:=q3 x hx;exact this.1)).use ?_;rintro v w⟨V4,r2,aG,rfl,hr2,K⟩;(replace H:=Rel.call H K);simp only[aA]at H;refine H.wg ?_;clear H;intro _ w H;exact⟨V4,_,r2,hV2.trans aG,H.sx,rfl,hv.up aG,hr2⟩
end
end Go.Proofs.YtmoiobegbpkkbaaGreatDoor
