import Derived.Test.YtmoiobegbpkkbaaGreatDoorRAC
import Derived.Laws.Cover4
open Array renaming length_toList->ud
open Bool renaming false_eq_true->vR,and_eq_true->dM
open Int renaming toNat_natCast->e8,toNat_of_nonneg->q9
open List renaming getElem?_cons_succ->vJ,getElem?_map->eu,all_eq_true->bj,getElem?_eq_none->jk,mem_cons->bB,append_nil->cm,length_nil->aI,take_append_drop->eN,getElem?_eq_some_iff->cW,length_cons->av,take_of_length_le->bR,drop_drop->oC,append_assoc->bJ,cons_append->aL,nil_append->aA,mem_map->cG,length_append->aq,length_take->bb,flatMap_cons->bz,mem_append->cq,eq_nil_of_length_eq_zero->bL,append_of_mem->A8,nodup_append->vU,getElem?_take->AU,pairwise_cons->lS,getElem_mem->cj,mem_of_mem_take->AW,not_mem_nil->pQ,take_succ_eq_append_getElem->bZ,take_length->fR,drop_eq_getElem_cons->j4,getElem?_append_left->vL,flatMap_append->bT,flatMap_nil->gB,mem_singleton->cv,flatMap_def->Tk,flatMap_map->vN,map_cons->fq,sum_cons->pR,map_congr_left->kY,drop_zero->kZ,getElem?_eq_getElem->a8,getElem?_cons_zero->AZ,foldl_append->yB,eq_nil_or_concat->yC,filter_cons_of_pos->Dz,filter_cons_of_neg->Gj,head?_cons->pS,tail_cons->mJ,getElem?_append_right->DA,ext_getElem->Lt,take_take->Tm,flatten_append->Gk,length_map->bu,map_append->eZ,map_nil->kx,range_succ->sK,map_map->kz,map_id->pT,ext_getElem?->vP
open Nat renaming le_refl->aK,add_comm->uk,mul_le_mul_right->iD,mul_comm->mM,zero_add->dU,zero_le->cu,mul_assoc->AX,mod_eq_of_lt->ug,sub_zero->Tl,min_eq_left->vO,mod_lt->Lu,mul_one->uj,lt_succ_self->yE,add_mod_right->To,dvd_of_mod_eq_zero->Tp,mul_mod_right->Tq
open Option renaming getD_some->k6,map_some->gA
open Option.some renaming injEq->kv
open UInt8 renaming toNat_inj->eF,toNat_lt->dY
namespace Go.Proofs.YtmoiobegbpkkbaaGreatDoor
open Go Go.RowKit
set_option maxRecDepth 100000
set_option maxHeartbeats 8000000
variable{l:au}{k ch full m coding n i rate:Nat}{df:Bool}{r b d f:ad}{P:Program}{e t:TypeId}{V:ae}{α:Type}{s:Sl}
abbrev bO:=UInt8×ad
def ei(l:ad):Nat:=256*at8 l 1+at8 l 2
def zE:Nat->ad->Option (List bO)
 | 0,_=>none
 | n+1,l=>if l.length=1/\at8 l 0=0 then some []else if l.length<3\/at8 l 0<65\/90<at8 l 0 then none
  else if l.length-3<ei l then none else(zE n (l.drop (3+ei l))).map ((l[0]?.getD 0,(l.drop 3).take (ei l))::·)
def kI(l:ad):Option (List bO):=zE (l.length+1) l
theorem NX:∀(n m:Nat) (l:ad),l.length<n->l.length<m->zE n l=zE m l
 | 0,_,l,h,_=>by omega
 | _+1,0,l,_,h=>by omega
 | n+1,m+1,l,h1,h2=>by
  simp only[zE];split
  ·rfl
  ·split
   ·rfl
   ·split
    ·rfl
    ·rename_i h3 h4;have:(l.drop (3+ei l)).length<l.length:=by simp;omega
     rw[NX n m _ aa aa]
theorem BS(l:ad):kI l=if l.length=1/\at8 l 0=0 then some []else if l.length<3\/at8 l 0<65\/90<at8 l 0 then none
  else if l.length-3<ei l then none else(kI (l.drop (3+ei l))).map ((l[0]?.getD 0,(l.drop 3).take (ei l))::·):=by
 unfold kI;rw[zE];split
 ·rfl
 ·split
  ·rfl
  ·split
   ·rfl
   ·rename_i h3 h4;rw[NX l.length ((l.drop (3+ei l)).length+1) _ (by simp;omega) aa]
theorem Yo:kI []=none:=by rw[BS];simp
def dL(c:bO):ad:=c.1::UInt8.ofNat (c.2.length/256)::UInt8.ofNat (c.2.length%256)::c.2
def wX(c:bO):Prop:=65<=c.1.toNat/\c.1.toNat<=90/\c.2.length<=65535
theorem NY:∀(l:List bO),(∀c∈l,wX c)->kI (l.flatMap dL++[0])=some l
 | [],_=>by rw[BS];simp[at8]
 | c::l,h=>by
  obtain⟨h1,h2,h3⟩:=h c ai;have ih:=NY l λx hx=>h x (by simp[hx]);have e0:(c::l).flatMap dL++[0]=c.1::UInt8.ofNat (c.2.length/256)::UInt8.ofNat (c.2.length%256)::(c.2++(l.flatMap dL++[0])):=by simp[dL]
  have hlen:ei ((c::l).flatMap dL++[0])=c.2.length:=by
   rw[e0];simp only[ei,at8,vJ,AZ,k6];rw[cH aa,cH aa];omega
  have h0:at8 ((c::l).flatMap dL++[0]) 0=c.1.toNat:=by rw[e0];rfl
  have hl:((c::l).flatMap dL++[0]).length=3+(c.2.length+(l.flatMap dL++[0]).length):=by rw[e0];simp;omega
  have hp:0<(l.flatMap dL++[0]).length:=ai;rw[BS,if_neg aa,if_neg aa,if_neg aa,hlen];have e1:((c::l).flatMap dL++[0]).drop (3+c.2.length)=l.flatMap dL++[0]:=by
   rw[e0,<-oC];simp
  have e2:(((c::l).flatMap dL++[0]).drop 3).take c.2.length=c.2:=by
   rw[e0];simp
  rw[e1,ih,e2,e0];rfl
theorem Lg(c:bO):(dL c).length=3+c.2.length:=by simp[dL];omega
theorem Ez:∀(n:Nat) (b:ad) (l:List bO),b.length<=n->kI b=some l->b=l.flatMap dL++[0]/\∀c∈l,wX c
 | 0,b,l,hb,h=>by
  have:b=[]:=bL aa;subst this;rw[Yo]at h;cases h
 | n+1,b,l,hb,h=>by
  rw[BS]at h;split at h
  ·rename_i h1;cases h;obtain⟨x,rfl⟩:∃x,b=[x]:=by
    match b,h1.1 with
    | [x],_=>exact⟨x,rfl⟩
   refine⟨?_,ai⟩;have:=h1.2;simp only[at8,AZ,k6]at this;have:x=0:=eF.1 this;rw[this];rfl
  ·split at h
   ·cases h
   ·split at h
    ·cases h
    ·rename_i h1 h2 h3;cases hr:kI (b.drop (3+ei b))with
     | none=>rw[hr]at h;cases h
     | some l' =>
      rw[hr]at h;simp only[gA,kv]at h;subst h;obtain⟨a1,a2⟩:=Ez n _ l' (by simp;omega) hr;have hlen:((b.drop 3).take (ei b)).length=ei b:=by simp;omega
      have hlt:ei b<=65535:=by
       have p1:=(b[1]?.getD 0).toNat_lt;have p2:=(b[2]?.getD 0).toNat_lt;unfold ei at8;omega
      refine⟨?_,λc hc=>?_⟩
      ·match b,h2 with
       | [],h2=>simp at h2
       | [_],h2=>simp at h2
       | [_,_],h2=>simp at h2
       | x::y::z::r,h2 =>
        simp only[bz,dL,hlen,aL,bJ];rw[<-a1];have p1:=y.toNat_lt;have p2:=z.toNat_lt;have q0:ei (x::y::z::r)=256*y.toNat+z.toNat:=rfl;have q1:UInt8.ofNat (ei (x::y::z::r)/256)=y:=by
         apply eF.1;rw[q0,cH aa];omega
        have q2:UInt8.ofNat (ei (x::y::z::r)%256)=z:=by
         apply eF.1;rw[q0,cH aa];omega
        rw[q1,q2];have q3:(x::y::z::r).drop (3+ei (x::y::z::r))=r.drop (ei (x::y::z::r)):=by rw[<-oC];rfl
        rw[q3];simp
      ·rcases bB.1 hc with rfl|hc
       ·refine⟨?_,?_,by rw[hlen];exact hlt⟩
        ·show 65<=at8 b 0;omega
        ·show at8 b 0<=90;omega
       ·exact a2 c hc
def oI(l:ad):Option (List bO):=if l.take 4=[83,78,68,49]then kI (l.drop 4)else none
def fI(wide:Bool)(l:ad):au:=if wide=true then(List.range (l.length/2)).map (λk=>at8 l (2*k)+256*at8 l (2*k+1))else(List.range l.length).map (at8 l)
theorem sO(wide:Bool)(l:ad):(fI wide l).length=if wide=true then l.length/2 else l.length:=by
 unfold fI;split<;>simp
theorem DK{l:ad}(h:k<l.length/2):(fI true l)[k]?=some (at8 l (2*k)+256*at8 l (2*k+1)):=by
 simp[fI,h]
theorem GC{l:ad}(h:k<l.length):(fI false l)[k]?=some (at8 l k):=by
 simp[fI,h]
def eB(df:Bool)(ch full:Nat)(l:au):au:=l.foldl (λacc r=>acc++[if df=true/\ch<=acc.length then(r+acc[acc.length-ch]?.getD 0)%full else r]) []
theorem ahW(df:Bool)(ch full:Nat):eB df ch full []=[]:=rfl
theorem Hm(df:Bool)(ch full:Nat)(l:au)(r:Nat):eB df ch full (l++[r])=eB df ch full l++[if df=true/\ch<=(eB df ch full l).length then(r+(eB df ch full l)[(eB df ch full l).length-ch]?.getD 0)%full else r]:=by
 unfold eB;rw[yB];rfl
theorem yZ(df:Bool)(ch full:Nat)(l:au):(eB df ch full l).length=l.length:=by
 have:∀n (l:au),l.length=n->(eB df ch full l).length=l.length:=by
  intro n;induction n with
  | zero=>intro l h;rw[bL h];rfl
  | succ n ih =>
   intro l h;obtain⟨i,x,rfl⟩:∃i x,l=i++[x]:=by
    rcases yC l with rfl|⟨i,x,rfl⟩
    ·simp at h
    ·exact⟨i,x,ai⟩
   rw[Hm,aq,ih i (by simpa using h)];simp
 exact this _ l rfl
theorem VE{r:Nat}(h:l[k]?=some r):eB df ch full (l.take (k+1))=eB df ch full (l.take k)++[if df=true/\ch<=k then(r+(eB df ch full (l.take k))[k-ch]?.getD 0)%full else r]:=by
 have hlt:=(cW.1 h).1;have he:=(cW.1 h).2;have hl:(eB df ch full (l.take k)).length=k:=by rw[yZ,bb];omega
 rw[bZ hlt,Hm,hl,he]
def dw(wide:Bool):Nat:=if wide then 65536 else 256
def eH(wide:Bool)(u:Nat):Int:=if wide then(if 32768<=u then(u:Int)-65536 else u)else((u:Int)-128)*256
def aV(coding:Nat):Bool:=decide (coding%2=1)
def dT(coding:Nat):Bool:=decide (2<=coding)
def e9(b:ad)(coding ch:Nat):List Int:=(eB (dT coding) ch (dw (aV coding)) (fI (aV coding) b)).map (eH (aV coding))
def dz(wide:Bool)(v:Int):Nat:=if wide then(v%65536).toNat else((v/256+128)%256).toNat
def hY(df:Bool)(ch full:Nat)(l:au)(i:Nat):Nat:=if df=true/\ch<=i then(l[i]?.getD 0+full-l[i-ch]?.getD 0)%full else l[i]?.getD 0
def gF(wide:Bool)(u:Nat):ad:=if wide then[UInt8.ofNat (u%256),UInt8.ofNat (u/256)]else[UInt8.ofNat u]
def lj(l:List Int)(coding ch:Nat):ad:=(List.range l.length).flatMap λi=>gF (aV coding) (hY (dT coding) ch (dw (aV coding)) (l.map (dz (aV coding))) i)
abbrev cV(c:bO):Bool:=c.1 == 70||c.1 == 68
abbrev cB:=Int×bO
def eL:Nat->List bO->List cB
 | _,[]=>[]
 | i,c::l=>if cV c=true then eL (i+1) l else((i:Int),c)::eL (i+1) l
theorem Dl:∀(l:List bO) (i:Nat) (c:bO),eL i (l++[c])=eL i l++(if cV c=true then[]else[(((i+l.length:Nat):Int),c)])
 | [],i,c=>by
  simp only[aA,eL,aI,Nat.add_zero]
 | d::l,i,c=>by
  have e:i+1+l.length=i+(d::l).length:=by simp;omega
  simp only[aL,eL];split
  ·rw[Dl l (i+1) c,e]
  ·rw[Dl l (i+1) c,e];rfl
theorem AE:∀(l:List bO) (i:Nat),∀n∈eL i l,(i:Int)<=n.1/\n.1<((i+l.length:Nat):Int)/\n.2∈l/\cV n.2=false
 | [],_,n,h=>by simp[eL]at h
 | c::l,i,n,h=>by
  simp only[eL]at h;have nn:n∈eL (i+1) l->(i:Int)<=n.1/\n.1<((i+(c::l).length:Nat):Int)/\n.2∈c::l/\cV n.2=false:=λh=>by
   obtain⟨h1,h2,h3,h4⟩:=AE l (i+1) n h;refine⟨aa,by simp only[av];omega,by simp[h3],h4⟩
  split at h
  ·exact nn h
  ·rename_i hf;rcases bB.1 h with rfl|h
   ·exact⟨aa,by simp only[av];omega,ai,by simpa using hf⟩
   ·exact nn h
theorem KR:∀(l:List bO) (i:Nat),(eL i l).length+(l.filter cV).length=l.length
 | [],_=>rfl
 | c::l,i=>by
  have:=KR l (i+1);simp only[eL];by_cases h:cV c=true
  ·rw[if_pos h,Dz h];simp only[av];omega
  ·rw[if_neg h,Gj h];simp only[av];omega
theorem KQ:∀(l:List bO) (i:Nat),(eL i l).Pairwise λa b=>a.1<b.1
 | [],_=>List.Pairwise.nil
 | c::l,i=>by
  simp only[eL];split
  ·exact KQ l (i+1)
  ·exact lS.2 ⟨λb hb=>by have:=(AE l (i+1) b hb).1;show(i:Int)<_;omega,KQ l (i+1)⟩
def eQ:Nat->Nat->List cB->List bO->List bO
 | 0,_,_,_=>[]
 | n+1,i,[],own=>own.head?.getD (0,[])::eQ n (i+1) [] own.tail
 | n+1,i,m::r,own=>if m.1=(i:Int)then m.2::eQ n (i+1) r own else own.head?.getD (0,[])::eQ n (i+1) (m::r) own.tail
theorem Wk:∀(l:List bO) (i:Nat),eQ l.length i (eL i l) (l.filter cV)=l
 | [],_=>rfl
 | c::l,i=>by
  have ih:=Wk l (i+1);simp only[eL,av];by_cases h:cV c=true
  ·rw[if_pos h,Dz h];cases hn:eL (i+1) l with
   | nil =>
    rw[hn]at ih;simp only[eQ,pS,k6,mJ,ih]
   | cons m r =>
    have:=(AE l (i+1) m (by rw[hn];simp)).1;rw[hn]at ih;simp only[eQ];rw[if_neg aa];simp only[pS,k6,mJ,ih]
  ·rw[if_neg h,Gj h];simp only[eQ];rw[if_pos trivial,ih]
theorem Hu:∀(n i:Nat) (l:List cB) (o:List bO),(eQ n i l o).length=n
 | 0,_,_,_=>rfl
 | n+1,i,[],o=>by simp[eQ,Hu n]
 | n+1,i,m::r,o=>by
  simp only[eQ];split<;>simp[Hu n]
theorem D8:∀(n i:Nat) (l:List cB) (o:List bO),l.length+o.length=n->l.Pairwise (λa b=>a.1<b.1)->(∀m∈l,(i:Int)<=m.1/\m.1<((i+n:Nat):Int)/\cV m.2=false)->(∀c∈o,cV c=true) ->
  eL i (eQ n i l o)=l/\(eQ n i l o).filter cV=o
 | 0,i,l,o,hn,_,_,_=>by
  have h1:l=[]:=bL aa;have h2:o=[]:=bL aa;subst h1 h2;exact⟨rfl,rfl⟩
 | n+1,i,[],o,hn,hp,hl,ho=>by
  obtain⟨c,o,rfl⟩:∃c o',o=c::o':=by
   cases o with
   | nil=>simp at hn
   | cons c o=>exact⟨c,o,rfl⟩
  have hc:=ho c ai;obtain⟨h1,h2⟩:=D8 n (i+1) [] o (by simpa using hn) List.Pairwise.nil ai λx hx=>ho x (by simp[hx]);show eL i (c::eQ n (i+1) [] o)=[]/\(c::eQ n (i+1) [] o).filter cV=c::o;simp only[eL];rw[if_pos hc,Dz hc,h1,h2];exact⟨rfl,rfl⟩
 | n+1,i,m::r,o,hn,hp,hl,ho=>by
  obtain⟨q1,q2⟩:=lS.1 hp;obtain⟨m1,m2,m3⟩:=hl m ai;simp only[eQ];by_cases hm:m.1=(i:Int)
  ·rw[if_pos hm];obtain⟨h1,h2⟩:=D8 n (i+1) r o (by simp at hn;omega) q2 (λx hx=>by
    obtain⟨a1,a2,a3⟩:=hl x (by simp[hx]);have:=q1 x hx;exact⟨aa,aa,a3⟩) ho
   simp only[eL];rw[if_neg (by rw[m3];simp),Gj (by rw[m3];simp),h1,h2,<-hm];exact⟨rfl,rfl⟩
  ·rw[if_neg hm];have key:∀(l:List cB) (a b:Int),l.Pairwise (λa b=>a.1<b.1)->(∀m∈l,a<=m.1/\m.1<b)->(l.length:Int)<=b-a\/l=[]:=by
    intro l;induction l with
    | nil=>intro a b _ _;exact .inr rfl
    | cons m r ih =>
     intro a b hp hl;obtain⟨q1,q2⟩:=lS.1 hp;have h0:=hl m ai;rcases ih (m.1+1) b q2 λx hx=>⟨by have:=q1 x hx;omega,(hl x (by simp[hx])).2⟩with h|h
     ·left;simp only[av];omega
     ·left;subst h;simp only[av,aI];omega
   have hk:=key (m::r) (i+1:Int) ((i+(n+1):Nat):Int) hp λx hx=>by
    obtain⟨a1,a2,a3⟩:=hl x hx;refine⟨?_,a2⟩;rcases bB.1 hx with rfl|hx
    ·omega
    ·have:=q1 x hx;omega
   obtain⟨c,o,rfl⟩:∃c o',o=c::o':=by
    cases o with
    | nil =>
     exfalso;rcases hk with hk|hk
     ·simp only[av,aI]at hn hk;omega
     ·cases hk
    | cons c o=>exact⟨c,o,rfl⟩
   have hc:=ho c ai;obtain⟨h1,h2⟩:=D8 n (i+1) (m::r) o (by simp at hn |-;omega) hp (λx hx=>by
    obtain⟨a1,a2,a3⟩:=hl x hx;refine⟨?_,aa,a3⟩;rcases bB.1 hx with rfl|hx
    ·omega
    ·have:=q1 x hx;omega) λx hx=>ho x (by simp[hx])
   show eL i (c::eQ n (i+1) (m::r) o)=m::r/\(c::eQ n (i+1) (m::r) o).filter cV=c::o;simp only[eL];rw[if_pos hc,Dz hc,h1,h2];exact⟨rfl,rfl⟩
theorem aiq:∀(n i:Nat) (l:List cB) (o:List bO),l.length+o.length=n->l.Pairwise (λa b=>a.1<b.1)->(∀m∈l,(i:Int)<=m.1/\m.1<((i+n:Nat):Int)/\cV m.2=false)->(∀c∈o,cV c=true) ->
  ∀c∈eQ n i l o,c∈l.map (·.2)\/c∈o:=by
 intro n i l o h1 h2 h3 h4 c hc;obtain⟨a,b⟩:=D8 n i l o h1 h2 h3 h4;by_cases hf:cV c=true
 ·right;rw[<-b];exact List.mem_filter.2 ⟨hc,hf⟩
 ·left;rw[<-a];have:∀(l:List bO) (i:Nat),c∈l->c∈(eL i l).map (·.2):=by
   intro l;induction l with
   | nil=>intro i h;simp at h
   | cons d l ih =>
    intro i h;simp only[eL];rcases bB.1 h with rfl|h
    ·rw[if_neg hf];simp
    ·split
     ·exact ih _ h
     ·exact List.mem_cons_of_mem _ (ih _ h)
  exact this _ _ hc
def ep(n:cB):ad:=aM n.1++n.2.1::cP n.2.2
def lN(l:ad)(p:Nat):gH cB :=
 match cD l p with
 | .bad c i=>.bad c i
 | .ok n q=>match l[q]? with
  | none=>.bad 15 q
  | some x=>match kJ l (q+1)with
   | .bad c i=>.bad c i
   | .ok d r=>.ok (n,x,d) r
theorem adh{n:cB}(h1 : -9223372036854775808<=n.1/\n.1<=9223372036854775807)(h2:n.2.2.length<=1099511627776){l r:ad}{p:Nat}(hp:p<=l.length)(h:l.drop p=ep n++r):lN l p=.ok n (p+(ep n).length):=by
 have e:l=l.take p++(ep n++r):=by rw[<-h,eN]
 have hpl:(l.take p).length=p:=by simp;omega
 unfold ep at e;have n1:=kq h1.1 h1.2 (l.take p) (n.2.1::cP n.2.2++r);rw[hpl,show l.take p++(aM n.1++(n.2.1::cP n.2.2++r))=l by rw[bJ]at e;exact e.symm]at n1;have e2:l=(l.take p++(aM n.1++[n.2.1]))++(cP n.2.2++r):=by
  conv=>lhs;rw[e]
  simp
 have hq:l[p+(aM n.1).length]?=some n.2.1:=by
  rw[e2,vL (by simp;omega),DA aa,hpl];simp
 have n2:=N0 h2 (l.take p++(aM n.1++[n.2.1])) r;rw[<-e2,show(l.take p++(aM n.1++[n.2.1])).length=p+(aM n.1).length+1 by simp only[aq,hpl,List.length_singleton];omega]at n2;unfold lN;rw[n1];simp only;rw[hq];simp only;rw[n2];simp only[ep,aq,av];congr 1;omega
theorem Sp{l:ad}{p q:Nat}{n:cB}(hp:p<=l.length)(h:lN l p=.ok n q):p<=q/\q<=l.length/\l.drop p=ep n++l.drop q:=by
 unfold lN at h;split at h
 ·cases h
 ·rename_i a q1 h1;split at h
  ·cases h
  ·rename_i x h2;split at h
   ·cases h
   ·rename_i d r h3;cases h;obtain⟨a1,a2,_⟩:=eX hp h1;have a4:=lO hp h1;have hlt:q1<l.length:=(cW.1 h2).1;obtain⟨b1,b2,b3⟩:=NZ aa h3;refine⟨aa,b2,?_⟩;have hx:l.drop q1=x::l.drop (q1+1):=by
     rw[j4 hlt];have:=(cW.1 h2).2;rw[this]
    rw[a4,hx,b3];simp[ep]
structure zl(m:Nat)(last:Int)(n:cB):Prop where
 lo:65<=n.2.1.toNat
 hi:n.2.1.toNat<=90
 ne:cV n.2=false
 aX:last<n.1
 fM:n.1<m+2
instance(m:Nat)(last:Int)(n:cB):Decidable (zl m last n):=decidable_of_iff (65<=n.2.1.toNat/\n.2.1.toNat<=90/\cV n.2=false/\last<n.1/\n.1<m+2) ⟨λ⟨a,b,c,d,e⟩=>⟨a,b,c,d,e⟩,λ⟨a,b,c,d,e⟩=>⟨a,b,c,d,e⟩⟩
def gj(m:Nat)(last:Int):List cB->Bool
 | []=>true
 | n::r=>decide (zl m last n)&&gj m n.1 r
def tY(last:Int):List cB->Int
 | []=>last
 | n::r=>tY n.1 r
theorem Ky:∀(l:List cB) (a:Int) (n:cB),tY a (l++[n])=n.1
 | [],_,_=>rfl
 | m::l,_,n=>Ky l m.1 n
theorem KS{m:Nat}:∀(l k:List cB) (a:Int),gj m a (l++k)=(gj m a l&&gj m (tY a l) k)
 | [],_,_=>by simp[gj,tY]
 | n::l,k,a=>by simp only[aL,gj,tY,KS l k n.1,Bool.and_assoc]
theorem St(l:List cB)(a:Int)(n:cB):gj m a (l++[n])=(gj m a l&&decide (zl m (tY a l) n)):=by
 rw[KS];simp[gj]
theorem Sr{l:List cB}{a:Int}(hk:k<l.length)(h:¬zl m (tY a (l.take k)) l[k]):gj m a l=false:=by
 conv=>lhs;rw[<-eN k l,j4 hk]
 rw[KS];simp[gj,h]
theorem FU{m:Nat}:∀ {l:List cB} {a:Int},gj m a l=true->l.Pairwise (λa b=>a.1<b.1)/\∀n∈l,a<n.1/\n.1<m+2/\cV n.2=false/\65<=n.2.1.toNat/\n.2.1.toNat<=90
 | [],_,_=>⟨List.Pairwise.nil,ai⟩
 | n::l,a,h=>by
  simp only[gj,dM,decide_eq_true_eq]at h;obtain⟨h1,h2⟩:=h;obtain⟨g1,g2⟩:=FU h2;refine⟨lS.2 ⟨λb hb=>(g2 b hb).1,g1⟩,λx hx=>?_⟩;rcases bB.1 hx with rfl|hx
  ·exact⟨h1.aX,h1.fM,h1.ne,h1.lo,h1.hi⟩
  ·obtain⟨q1,q2⟩:=g2 x hx;have:=h1.aX;exact⟨aa,q2⟩
theorem Ss{m:Nat}:∀ {l:List cB} {a:Int},l.Pairwise (λa b=>a.1<b.1)->(∀n∈l,a<n.1/\n.1<m+2/\cV n.2=false/\65<=n.2.1.toNat/\n.2.1.toNat<=90)->gj m a l=true
 | [],_,_,_=>rfl
 | n::l,a,hp,h=>by
  obtain⟨q1,q2⟩:=lS.1 hp;obtain⟨a1,a2,a3,a4,a5⟩:=h n ai;simp only[gj,dM,decide_eq_true_eq];exact⟨⟨a4,a5,a3,a1,a2⟩,Ss q2 λx hx=>⟨q1 x hx,(h x (by simp[hx])).2⟩⟩
def ln(coding:Nat)(ns:List cB):ad:=if coding=1/\ns=[]then[]else aM coding++bY ep ns
def lk(b:ad):Option (Nat×List cB) :=
 if b=[]then some (1,[])else match cD b 0 with
  | .bad _ _=>none
  | .ok c p=>if c<0\/4<=c then none else match bX b (lN b) 1000 p with
   | .bad _ _=>none
   | .ok ns q=>if q≠b.length\/(c=1/\ns=[])then none else if gj ns.length (-1) ns=true then some (c.toNat,ns)else none
theorem agJ{ns:List cB}(hc:coding<4)(hl:ns.length<=1000)(hok:gj ns.length (-1) ns=true)(hd:∀n∈ns,n.2.2.length<=1099511627776):lk (ln coding ns)=some (coding,ns):=by
 unfold ln;split
 ·rename_i h;obtain⟨rfl,rfl⟩:=h;rfl
 ·rename_i hne;obtain⟨b,hb⟩:∃b,b=aM (coding:Int)++bY ep ns:=⟨_,rfl⟩
  rw[<-hb];have hp:=pM (zz (coding:Int));have hbl:b≠[]:=by
   intro h;rw[h]at hb;have:=congrArg List.length hb;simp only[aI,aq,aM]at this;omega
  have n1:=kq (n:=(coding:Int)) aa aa [] (bY ep ns);simp only[aA,<-hb,aI,dU]at n1;have n2:=kq (n:=(ns.length:Int)) aa aa (aM (coding:Int)) (ns.flatMap ep);have lE:aM (coding:Int)++(aM (ns.length:Int)++ns.flatMap ep)=b:=hb.symm;rw[lE]at n2;have Af:=congrArg List.length lE;simp only[aq]at Af;have hall:=(FU hok).2;have n3:=Az (f:=ep) (b:=b) (one:=lN b) ns ((aM (coding:Int)).length+(aM (ns.length:Int)).length) aa (λx hx q r hq h=>adh (by
   obtain⟨a1,a2,_⟩:=hall x hx;constructor<;>omega) (hd x hx) hq h) [] (by
    rw[<-lE,<-bJ,<-aq,List.drop_left];simp)
  have n4:bX b (lN b) 1000 (aM (coding:Int)).length=.ok ns b.length:=by
   unfold bX;rw[n2];simp only;rw[if_neg aa,e8,n3];congr 1;omega
  unfold lk;rw[if_neg hbl,n1];simp only;rw[if_neg aa,n4];simp only;rw[if_neg (by
   rintro(h|⟨h1,h2⟩)
   ·exact h rfl
   ·exact hne ⟨aa,h2⟩),if_pos hok,e8]
theorem agK{ns:List cB}(h:lk b=some (coding,ns)):coding<4/\ns.length<=1000/\gj ns.length (-1) ns=true/\b=ln coding ns/\∀n∈ns,n.2.2.length<=b.length:=by
 unfold lk at h;split at h
 ·rename_i hb;cases h;subst hb;exact⟨aa,ai,rfl,rfl,ai⟩
 ·split at h
  ·cases h
  ·rename_i c p h1;obtain⟨a1,a2,_⟩:=eX (cu _) h1;have a3:=lO (cu _) h1;rw[kZ]at a3;split at h
   ·cases h
   ·rename_i hc;split at h
    ·cases h
    ·rename_i Dm q h2;split at h
     ·cases h
     ·rename_i h3;split at h
      ·rename_i hok;cases h;unfold bX at h2;split at h2
       ·cases h2
       ·rename_i n q' h4;obtain⟨b1,b2,_⟩:=eX a2 h4;have b3:=lO a2 h4;split at h2
        ·cases h2
        ·rename_i hn;obtain⟨c1,c2,c3,c4⟩:=yl (f:=ep) (λp q x hp h=>Sp hp h) _ _ _ _ b2 h2;have hq:q=b.length:=Decidable.byContradiction λhne=>h3 (.inl hne);subst hq;rw[List.drop_length,cm]at c4;obtain⟨N,rfl⟩:∃N:Nat,n=N:=⟨n.toNat,aa⟩
         obtain⟨C,rfl⟩:∃C:Nat,c=C:=⟨c.toNat,aa⟩
         rw[e8]at c1 |-;have Ae:b=aM (C:Int)++bY ep ns:=by
          conv=>lhs;rw[a3,b3,c4]
          rw[bY,c1]
         refine⟨aa,aa,hok,?_,λn hn=>?_⟩
         ·rw[ln,if_neg,<-Ae];rintro⟨h5,h6⟩;exact h3 (.inr ⟨aa,h6⟩)
         ·have h5:n.2.2.length<=(ep n).length:=by simp only[ep,cP,aq,av];omega
          have h6:(ep n).length<=(ns.flatMap ep).length:=by
           obtain⟨s,t,e⟩:=A8 hn;rw[e];simp only[bT,bz,aq];omega
          have h7:=congrArg List.length Ae;simp only[bY,aq]at h7;omega
      ·cases h
section
variable{V W:ae}
theorem qv(hV:Sub V W){x y:Sl}{a b:ad}(hx:ay V x a)(hy:ay V y b):aC 129 [x.v,y.v] W λv w'=>v=.bool (decide (a=b))/\Rel W V [] V w':=by
 have H:=Rel.start hV;have h1:=hx.len;have h2:=hy.len;have tH:Cells W x.a (a.map bv):=fc a▸(hx.up hV).cells;have hcy:Cells W y.a (b.map bv):=fc b▸(hy.up hV).cells;refine eV Tryz.func129 10 [0,1,4] ?_;refine wk ?_;exact H
theorem Fc(hV:Sub V W){x y:Sl}{a b:ad}(hx:ay V x a)(hy:ay V y b):aC 190 [x.v,y.v] W λv w'=>v=.bool (decide (a.take b.length=b))/\Rel W V [] V w':=by
 have H:=Rel.start hV;have h1:=hx.len;have h2:=hy.len;have hc:=hx.cap;refine eV Tryz.func190 18 [0,1,4] ?_;by_cases hl:b.length<=a.length
 ·have dy:=hx.sub (n:=1) (λ_=>rfl) (a:=0) (b:=y.len) aa aa;rw[kZ]at dy;refine wk ?_;refine(qv H.data dy hy).use ?_;rintro v w⟨rfl,K⟩;(replace H:=Rel.call H K);refine wk ?_;exact⟨by rw[h2],H.sx⟩
 ·refine wk ?_;refine⟨?_,H.sx⟩;rw[decide_eq_false];intro h;have:=congrArg List.length h;simp at this;omega
theorem BW(hV:Sub V W){x y:Sl}{a b:ad}(hx:ay V x a)(hy:ay V y b):aC 192 [x.v,y.v] W λv w'=>(∃r:Sl,v=.tuple #[r.v,.bool (decide (a.take b.length=b))]/\(a.take b.length=b->ay V r (a.drop b.length)))/\Rel W V [] V w':=by
 have H:=Rel.start hV;have h1:=hx.len;have h2:=hy.len;have hc:=hx.cap;refine eV Tryz.func192 15 [0,1,4,5,9] ?_;refine wk ?_;refine(Fc H.data hx hy).use ?_;rintro v w⟨rfl,K⟩;(replace H:=H.az K);by_cases hp:a.take b.length=b
 ·have hl:b.length<=a.length:=by
   have:=congrArg List.length hp;simp at this;omega
  have dy:=hx.sub (n:=1) (λ_=>rfl) (a:=y.len) (b:=x.len) aa aa;rw[h1,fR]at dy;rw[decide_eq_true hp];refine wk ?_;refine⟨⟨⟨aU x.a y.len x.cap 1,x.len-y.len,x.cap-y.len⟩,rfl,λ_=>?_⟩,H.sx⟩;rw[h1];rw[h2]at dy |-;exact dy
 ·rw[decide_eq_false hp];refine wk ?_;exact⟨⟨x,rfl,λh=>absurd h hp⟩,H.sx⟩
theorem IM(hV:Sub V W){x y:Sl}{a b:bg}(hx:aB p7 V x a)(hy:aB p7 V y b)(ha:a.length<=1099511627776):aC 214 [x.v,y.v] W λv w'=>v=.bool (decide (a=b))/\Rel W V [] V w':=by
 have H:=Rel.start hV;have h1:=hx.len;have h2:=hy.len;refine eV Tryz.func214 26 [0,1,4,5,10,12,13,14,24] ?_;by_cases hl:a.length=b.length;rotate_left
 ·refine wk ?_;rw[decide_eq_false (λh=>hl (by rw[h]))];exact⟨rfl,H⟩
 refine wk ?_;refine aY (S:=Nat) ah [0,1,10,12] (λk=>[(13,iv k)]) (λk w'=>k<=a.length/\a.take k=b.take k/\Rel W V [] V w') (λk _=>a.length-k) 0 ?_;conv=>whnf
 refine⟨sB,⟨aa,rfl,H⟩,?_⟩;clear H;rintro k w⟨hk,hz,H⟩;by_cases xN:k<a.length;rotate_left
 ·rw[bR aa,bR aa]at hz;refine wk ?_;rw[decide_eq_true hz];exact⟨rfl,H⟩
 have CK:k<b.length:=aa;obtain⟨hp,hc⟩:=hx.rW (g:=str) (λ_=>rfl) xN;obtain⟨tO,hc'⟩:=hy.rW (g:=str) (λ_=>rfl) CK;refine wk ?_;refine dV 6 [] [0,1,2,3,4,5,6,7,8] H ?_;clear H;intro w H;refine wk ?_;refine BV (λh5=>?_) (λh5=>?_)
 ·refine wk ?_;rw[decide_eq_false]
  ·exact⟨rfl,H.sx⟩
  ·intro e;subst e;exact h5 rfl
 ·refine wk ?_;refine⟨sB,k+1,sB,⟨aa,?_,H.sx⟩,aa⟩;rw[bZ xN,bZ CK,hz,h5]
theorem uU(hV:Sub V W){s:Sl}{l:ad}(hs:ay V s l)(hl:l.length<=1000000000):aC 73 [s.v] W λv w'=>∃r:Sl,v=r.v/\Rel W V [.row r 5 1 (l.flatMap aE)] V w':=by
 have H:=Rel.start hV;have hlen:=hs.len;refine eV Tryz.func73 8 [0,2,4] ?_;rcases s with⟨_|p,n,c⟩
 ·have tN:l=[]:=by
   rcases l with _|⟨b,l⟩
   ·rfl
   ·have:=hs.cells.1 (by simp[fc]);simp[Plain]at this
  subst tN;refine wk ?_;exact⟨⟨none,0,0⟩,rfl,H.cb _ _⟩
 ·refine wk ?_;refine H.nA ?_;clear H;intro w b5 H;refine wk ?_;replace H:=H.fA (n:=0) (e:=5) (sz:=1) rfl (by simp[maxLen]);refine Rel.eJ (s:=⟨some ⟨b5,0,none⟩,0,0⟩) (xs:=[]) H (i:=0) rfl hs (by simp;omega) ?_;clear H;intro r1 w H;simp only[List.set_cons_zero]at H;rw[aA]at H;refine wk ?_;exact⟨r1,rfl,H⟩
end
section
variable{w0 V0 V w:ae}{own:bU}
theorem Rel.Od{src dst:TypeId}(hs:P.underlying src=some .string)(hd:P.underlying dst=some (.slice e))(he:P.underlying e=some (.int .u8))(H:Rel w0 V0 own V w)(l:ad){k:ao->ae->Prop}
  (hk:∀V' s w',Ext w w'->Sub V V'->ay V' s l->Rel w0 V0 own V' w'->k s.v w'):bo P (convert src dst (str l)) w k:=by
 refine .of (run_bytes_of_string w src dst e _ hs hd he) ?_
 have xI:Ext w (w.drew.alloc (.cells (bytesRow ⟨l.toArray⟩ (grownCap w (ByteArray.size ⟨l.toArray⟩) 0 e)) e ((bytesRow ⟨l.toArray⟩ (grownCap w (ByteArray.size ⟨l.toArray⟩) 0 e)).size,(bytesRow ⟨l.toArray⟩ (grownCap w (ByteArray.size ⟨l.toArray⟩) 0 e)).size+1))) :=
  ⟨rfl,rfl,rfl,ai,λc hc=>heap_alloc_old w.drew _ c hc⟩
 obtain⟨V',h1,h2,h3⟩:=(H.ext xI).freeze (List.Sublist.refl _);refine hk V' ⟨some ⟨w.heap.size,0,none⟩,l.length,_⟩ _ xI h1 ⟨rfl,grownCap_ge w _ 0 e,?_⟩ h2;have hv:=h3 w.heap.size _ _ _ H.base.size (heap_alloc_new w.drew _) (λr hr hb=>by have:=aN.lt (H.laid r hr) hb;omega);refine⟨λ_=>rfl,λj v hj=>?_⟩;simp only[bD,bw,dU];rw[fc]at hj;simp only[World.cell?,hv];have iB:j<l.length:=by have:=(cW.1 hj).1;simpa using this
 rw[eu,a8 iB]at hj;simp only[gA,kv]at hj;subst hj;rw[bytesRow,Array.getElem?_append_left (by simpa using iB)];simp[iB]
end
theorem aB.fM{f:α->aD}{l:List α}(h:aB f V s l){g g':α->ao}(hf:∀x,f x=[g x,g' x]){i:Nat}(hi:i<l.length):Plain s.a/\V.cell? ⟨bD s.a,bw s.a+i*2,none⟩=some (g l[i])/\V.cell? ⟨bD s.a,bw s.a+i*2+1,none⟩=some (g' l[i]):=by
 obtain⟨h1,h2⟩:=h.get (n:=2) (λx=>by rw[hf];rfl) aa hi;exact⟨h1,h2 0 _ (by rw[hf];rfl),h2 1 _ (by rw[hf];rfl)⟩
theorem di.iY{b:Nat}{l:ad}(h:di V b (l.map bv) t)(hn:n=l.length):ay V ⟨some ⟨b,0,none⟩,n,n⟩ l:=⟨hn,aK _,by rw[fc];exact h.cells⟩
def uK(V:ae)(g:FuncId)(cap:aD)(a:ao)(bs:ad):Prop :=
 ∀V1 W1,Sub V V1->Sub V1 W1->oD g (a::cap).toArray W1 λv w'=>∃(V2:ae) (r:Sl),Sub V1 V2/\v=r.v/\ay V2 r bs/\Rel W1 V1 [] V2 w'
theorem EW{enc:α->ad}{l:List α}(hk:k<l.length):((l.take k).flatMap enc).length+(enc l[k]).length<=(l.flatMap enc).length:=by
 conv=>rhs;rw[<-eN k l,bT,j4 hk,bz]
 simp only[aq];omega
theorem EV{enc:α->ad}{l:List α}{a:ad}(hk:k<l.length):a++(l.take k).flatMap enc++enc l[k]=a++(l.take (k+1)).flatMap enc:=by
 rw[bZ hk,bT,bJ];simp only[bz,gB,cm]
structure Pw{α β:Type}(R:ae->β->α->Prop)(V:ae)(xs:List β)(ys:List α):Prop where
 len:xs.length=ys.length
 all:∀(k:Nat) x y,xs[k]?=some x->ys[k]?=some y->R V x y
section
variable{α β:Type}{R:ae->β->α->Prop}{V V':ae}{xs:List β}{ys:List α}
theorem Pw.nil:Pw R V [] []:=⟨rfl,λk x y h=>by simp at h⟩
theorem Pw.up(hR:∀V V' x y,Sub V V'->R V x y->R V' x y)(h:Pw R V xs ys)(hs:Sub V V'):Pw R V' xs ys:=⟨h.len,λk x y h1 h2=>hR _ _ _ _ hs (h.all k x y h1 h2)⟩
theorem Pw.snoc(h:Pw R V xs ys){x:β}{y:α}(hx:R V x y):Pw R V (xs++[x]) (ys++[y]):=by
 refine⟨by simp[h.len],λk a b h1 h2=>?_⟩;have hl:=h.len;by_cases hk:k<xs.length
 ·rw[vL hk]at h1;rw[vL aa]at h2;exact h.all k a b h1 h2
 ·rw[DA aa]at h1 h2;have e:k-xs.length=0:=by
   have:=(cW.1 h1).1;simp at this;omega
  rw[e]at h1;rw[<-hl,e]at h2;cases h1;cases h2;exact hx
theorem Pw.eq{xs ys:List α}(h:Pw (λ_ x y=>x=y) V xs ys):xs=ys:=by
 refine Lt h.len λk h1 h2=>?_;exact h.all k _ _ (a8 h1) (a8 h2)
end
def RL{α β:Type}(f:β->aD)(R:ae->β->α->Prop)(V:ae)(r:Sl)(ys:List α):Prop:=∃xs,aB f V r xs/\Pw R V xs ys
section
variable{w0 V0 V w:ae}{own:bU}
theorem Rel.eG{f:α->aD}{l:List α}(H:Rel w0 V0 own V w)(hi:own[i]?=some (.row s e n (l.flatMap f)))(hf:∀x,(f x).length=n)(hn:0<n):aB f w s l:=by
 have hr:=H.rowAt hi;refine⟨H.gn hi hf hn,?_,hr.cells⟩;rcases hr.at_ with⟨_,h2,h3⟩|⟨b,cur,_,_,h3,_⟩
 ·omega
 ·exact h3
theorem Rel.agx{e sz:Nat}{xs:aD}(H:Rel w0 V0 own V w)(hi:own[i]?=some (.row s e sz xs)){k:Nat}(hk:k<=s.len):Rel w0 V0 (own.set i (.row ⟨aU s.a 0 s.cap sz,k-0,s.cap-0⟩ e sz (xs.take (k*sz)))) V w:=by
 have hr:=H.rowAt hi;have dy:aU s.a 0 s.cap sz=s.a:=by
  rcases hr.at_ with⟨h1,_⟩|⟨b,cur,h1,_⟩
  ·rw[h1,ag3]
  ·rw[h1];unfold aU;split
   ·rfl
   ·simp[Addr.add]
 refine H.put hi rfl rfl rfl (aK _) (λc _ _=>rfl) ?_ λb hb=>.inl ?_
 ·rw[dy];refine⟨by rw[bb,hr.len];simp only[Tl];exact vO (iD _ hk),?_⟩;rcases hr.at_ with⟨h1,h2,h3⟩|⟨b,cur,h1,h2,h3,h4,h5,h6⟩
  ·exact .inl ⟨h1,by simp only[];omega,by simp only[];omega⟩
  ·refine .inr ⟨b,cur,h1,h2,by simp only[];omega,by simp only[];omega,by simpa using h5,?_⟩;rw[<-h6,Tm];simp only[Tl];rw[vO (iD _ hk)]
 ·simpa [aN.at_,dy]using hb
end
section
variable{w0 V0 V w:ae}{own:bU}
theorem af4(P:Program)(w:ae)(t e:TypeId){b n c:Nat}{l:aD}{u:TypeId}(ht:P.underlying t=some (.slice e))(he:P.underlying e=some (.int .u8))(hb:di w b l u) :
  (convert t t (.slice (some ⟨b,0,none⟩) n c)).run P w=.ok (.slice (some ⟨b,0,none⟩) n c) { w with heap:=w.heap.setIfInBounds b (.cells l.toArray u (l.length,l.length+1)) }:=by
 have hsh:w.shape? b=some (u,l.length):=by
  unfold World.shape?;rw[show w.heap[b]?=_ from hb];simp
 have hfr:w.freeze ⟨b,l.length,none⟩ 1={ w with heap:=w.heap.setIfInBounds b (.cells l.toArray u (l.length,l.length+1)) }:=by
  unfold World.freeze;rw[if_neg ag];congr 1;have hlt:=hb.lt;have gd:w.heap[b]=.cells l.toArray u (0,0):=(Array.getElem?_eq_some_iff.1 hb).2;apply Array.ext
  ·simp
  ·intro i h1 h2;have h3:i<w.heap.size:=by simpa using h2
   rw[Array.getElem_setIfInBounds (by simpa using h2),Array.getElem_modify];by_cases h:b=i
   ·subst h;simp[gd]
   ·simp[h]
 simp[convert,run_underlying ht,run_underlying he,markStringish,hsh,hfr]
theorem Rel.uW(ht:P.underlying t=some (.slice e))(he:P.underlying e=some (.int .u8)){b:Nat}{l:ad}{u:TypeId}(H:Rel w0 V0 (.ax b (l.flatMap aE) u::own) V w){n:Nat}(hn:n=l.length){k:ao->ae->Prop}
  (hk:∀V' w',Sub V V'->ay V' ⟨some ⟨b,0,none⟩,n,n⟩ l->Rel w0 V0 own V' w'->k (.slice (some ⟨b,0,none⟩) n n) w'):bo P (convert t t (.slice (some ⟨b,0,none⟩) n n)) w k:=by
 have hb:=H.ql;refine .of (af4 P w t e ht he hb) ?_;have hlt:=hb.lt
 have H2:Rel w0 V0 (.obj b (.cells (l.flatMap aE).toArray u ((l.flatMap aE).length,(l.flatMap aE).length+1))::own) V { w with heap:=w.heap.setIfInBounds b (.cells (l.flatMap aE).toArray u ((l.flatMap aE).length,(l.flatMap aE).length+1)) } :=
  H.put (i:=0) rfl rfl rfl rfl ai (λc hc hne=>by
   have:b≠c:=λe=>hne (by rw[e];rfl);simp[Array.getElem?_setIfInBounds_ne this]) (by simp[aN.laid,hlt]) λc hc=>.inl hc
 obtain⟨V',h1,h2,h3⟩:=H2.freeze (List.sublist_cons_self _ _);refine hk V' _ h1 ⟨hn,aK _,λ_=>rfl,λj v hj=>?_⟩ h2;have hv:=h3 b _ _ _ (H.new (.ax b (l.flatMap aE) u) ai b rfl) (H2.Sz (i:=0) rfl) (λr hr jz=>(lS.1 H.apart).1 r hr b rfl jz);simp only[World.cell?,bD,bw,dU,hv];simpa using hj
theorem Rel.Im{s d:TypeId}(hs:(P.underlying s).isSome=true)(hd:P.underlying d=some .string){k:IntKind}{n:Int}{G:ao->ae->Prop}(hk:G (.string (Utf8.encode n)) w):bo P (convert s d (.int k n)) w G :=
 .of (run_convert_int_string w s d k n hs hd) hk
theorem Rel.YK{s d:TypeId}(hs:P.underlying s=some (.slice e))(he:P.underlying e=some (.int .i32))(hd:P.underlying d=some .string){b:Nat}{zs:List Int}{u:TypeId}(H:Rel w0 V0 (.ax b (zs.map (Value.int .i32)) u::own) V w){n:Nat}(hn:n=zs.length){G:ao->ae->Prop}
  (hk:G (.string (runesBytes zs)) w):bo P (convert s d (.slice (some ⟨b,0,none⟩) n n)) w G:=by
 refine .of (run_convert_runes w s d e ⟨b,0,none⟩ n n zs aa hs he hd λj hj=>?_) ?_
 ·have:=H.ql.cell j;rw[show(⟨b,0,none⟩:Addr).add j=⟨b,0+j,none⟩from addr_add ..,dU,this];simp[hj,List.getD]
 ·rw[bR aa];exact hk
theorem af2(P:Program)(w:ae)(t u ty e:TypeId)(i:TypeInfo)(z:ao)(ht:P.underlying t=some (.slice e))(hu:P.underlying u=some (.int .i64))(hi:P.info? e=some i)(hz:i.zero=some z)(n:Nat)(hs:i.size=1)(hb:i.bytes=1)
  (h0:0<n) (h48:n<=281474976710656) :
  (Builtin.append_ #[t,u] ty #[.slice none 0 0,.int .i64 n]).run P w =
   .ok (.slice (some ⟨w.heap.size,0,none⟩) n (grownCap w n 0 e)) (w.drew.alloc (.cells (Builtin.zeroCells z.cells n++Builtin.zeroCells z.cells (grownCap w n 0 e-n)) e)):=by
 have hn:n≠0:=aa;have hw:IntKind.i64.wrap (n:Int)=n:=wrap_small _ aa aa;have aao:¬(9223372036854775807<(n:Int)):=aa;have aam:¬(281474976710656<Builtin.nextslicecap n 0):=by rw[nextslicecap_zero h0];omega
 have aan:¬(281474976710656<(n:Int)):=aa;simp[Builtin.append_,run_underlying ht,run_underlying hu,sizeOf,typeInfo,zeroValue,hi,hz,hs,hb,hw,asInt,asIntOf,hn,aao,aam,aan,Question.forced,run_firstCells_none,newRow,grownCap];intro h;omega
end
section
variable{w0 V0 V w:ae}{own:bU}
theorem H5{ty:TypeId}(ht:P.underlying t=some (.slice e)){a:Option Addr}{n c:Nat}{k:ao->ae->Prop}(hk:k (.int .i64 c) w):bo P (Builtin.cap_ #[t] ty #[.slice a n c]) w k:=by
 refine .of (w':=w) ?_ hk;simp[Builtin.cap_,run_underlying ht,goInt]
theorem aiQ(n:Nat):(Builtin.zeroCells (Value.int .u8 0).cells n).toList=List.replicate n (.int .u8 0):=by
 have h:(Value.int .u8 0).cells=#[.int .u8 0]:=rfl;rw[h];refine Lt (by simp[Builtin.zeroCells]) λi h1 h2=>?_;simp[Builtin.zeroCells,Nat.mod_one]
theorem aai(w:ae)(n e:Nat)(h:n<=1099511627776):grownCap w n 0 e<=maxLen:=grownCap_le_maxLen w n 0 e (by simp only[maxLen];omega)
theorem Rel.Xw(H:Rel w0 V0 own V w){n:Nat}(h0:0<n)(hn:n<=1099511627776){ty:TypeId}{k:ao->ae->Prop}
  (hk:∀s' w',Rel w0 V0 (.row s' 5 1 (List.replicate n (.int .u8 0))::own) V w'->s'.len=n->k s'.v w'):bo Tryz.prog (Builtin.append_ #[22,3] ty #[.slice none 0 0,.int .i64 n]) w k:=by
 obtain⟨i,hi,lF,oe,hi3⟩:=(ah _ _ (show sU[5]?=some _ from rfl)).info;have dS:=af2 Tryz.prog w 22 3 ty 5 i (.int .u8 0) Tryz.underlying22 Tryz.underlying3 hi hi3 n lF oe h0 aa;refine .of dS ?_
 have xI:Ext w (w.drew.alloc (.cells (Builtin.zeroCells (Value.int .u8 0).cells n++Builtin.zeroCells (Value.int .u8 0).cells (grownCap w n 0 5-n)) 5)) :=
  ⟨rfl,rfl,rfl,ai,λc hc=>heap_alloc_old w.drew _ c hc⟩
 refine hk ⟨some ⟨w.heap.size,0,none⟩,n,grownCap w n 0 5⟩ _ (H.more xI ?_ λb hb=>?_) rfl
 ·have kT:=grownCap_ge w n 0 5;refine⟨ai,.inr ⟨w.heap.size,_,rfl,⟨(0,0),heap_alloc_new w.drew _,.zero _⟩,kT,aai w n _ hn,?_,?_⟩⟩
  ·simp only[Array.size_append,size_zeroCells];have:(Value.int .u8 0).cells.size=1:=rfl;rw[this];omega
  ·rw[Array.toList_append,List.take_append_of_le_length (by rw[ud,size_zeroCells];simp[Value.cells]),bR (by rw[ud,size_zeroCells];simp[Value.cells])];exact aiQ n
 ·simp only[aN.at_,gA,kv]at hb;omega
end
section
variable{V W:ae}
theorem aah(hV:Sub V W){n:Nat}(hn:n<=1099511627776):aC 270 [.slice none 0 0,iv n] W λv w'=>∃r:Sl,v=r.v/\Rel W V [.row r 5 1 []] V w':=by
 have H:=Rel.start hV;refine eV Tryz.func270 27 [0,1,4,6,16] ?_;by_cases h0:n=0
 ·subst h0;refine wk ?_;refine H5 Tryz.underlying22 ?_;refine wk ?_;exact⟨⟨none,0,0⟩,rfl,H.cb _ _⟩
 ·refine wk ?_;refine H5 Tryz.underlying22 ?_;refine wk ?_;refine H5 Tryz.underlying22 ?_;refine wk ?_;refine Rel.Xw H (n:=n) aa hn ?_;clear H;intro s' w H hs;have hc:s'.len<=s'.cap:=by
   have hr:=H.rowAt (i:=0) rfl;exact hr.cap
  refine wk ?_;have H2:=H.agx (i:=0) rfl (k:=0) (cu _);exact⟨_,rfl,H2⟩
abbrev cZ(s:Sl):aD:=[s.v]
abbrev ju(V:ae)(x:Sl)(y:ad):Prop:=ay V x y
theorem PN(ll:bg)(k:Nat):((ll.take k).flatten).length<=ll.flatten.length:=by
 conv=>rhs;rw[<-eN k ll,Gk]
 simp
theorem nf(hV:Sub V W){s:Sl}{hl:List Sl}{ll:bg}(hs:aB cZ V s hl)(hp:Pw ju V hl ll)(hll:ll.length<=1000000)(hb:ll.flatten.length<=1099511627000):aC 207 [s.v] W λv w'=>∃r:Sl,v=r.v/\Rel W V [.row r 5 1 (ll.flatten.flatMap aE)] V w':=by
 have H:=Rel.start hV;have hlen:=hs.len;have hpl:=hp.len;have hnext:∀k (hk:k<ll.length),(ll.take (k+1)).flatten=(ll.take k).flatten++ll[k]:=λk hk=>by rw[bZ hk,Gk];simp only[List.flatten_cons,List.flatten_nil,cm]
 refine eV Tryz.func207 36 [0,2,3,5,6,8,9,10,11,12,20,25,26,27,28] ?_;refine wk ?_;refine aP.cut 0 (λ_:Unit=>[(0,s.v),(3,iv (ll.flatten.length:Nat))]) (λ_ w'=>Rel W V [] V w') ?_ ?_
 ·refine aY (S:=Nat) ah [0,2,6,8,9,10,25,26,27,28] (λk=>[(3,iv ((ll.take k).flatten.length:Nat)),(11,iv k)]) (λk w'=>k<=ll.length/\Rel W V [] V w') (λk _=>ll.length-k) 0 ?_;conv=>whnf
  refine⟨sB,⟨aa,H⟩,?_⟩;clear H;rintro k w⟨hk,H⟩;by_cases hlt:k<ll.length;rotate_left
  ·rw[bR aa];refine wk ?_;exact⟨(),sB,H⟩
  have jZ:k<hl.length:=aa;obtain⟨q1,q2⟩:=hs.aX (g:=λx:Sl=>x.v) (λ_=>rfl) jZ;have hx:=hp.all k _ _ (a8 jZ) (a8 hlt);have hxl:=hx.len;have h1:=PN ll (k+1);have h2:=congrArg List.length (hnext k hlt);rw[aq]at h2;refine wk ?_;refine⟨sB,k+1,⟨congrArg (λz=>some (Value.int .i64 z)) aa,rfl,trivial⟩,⟨aa,H⟩,aa⟩
 clear H;rintro _ w H;refine wk ?_;refine(aah H.data (n:=ll.flatten.length) aa).use ?_;rintro v w⟨r,rfl,K⟩;(replace H:=Rel.call H K);simp only[cm]at H;refine wk ?_;refine aY (S:=Nat×Sl) ah [0,2,3,5,9,10,11,12,20,25,26] (λk=>[(6,k.2.v),(27,iv k.1)]) (λk w'=>k.1<=ll.length/\Rel W V [.row k.2 5 1 ((ll.take k.1).flatten.flatMap aE)] V w') (λk _=>ll.length-k.1) (0,r) ?_;conv=>whnf
 refine⟨sB,⟨aa,H⟩,?_⟩;clear H;rintro⟨k,r⟩w⟨hk,H⟩;dsimp only at hk H;by_cases hlt:k<ll.length;rotate_left
 ·rw[bR aa]at H;refine wk ?_;exact⟨r,rfl,H⟩
 have jZ:k<hl.length:=aa;obtain⟨q1,q2⟩:=hs.aX (g:=λx:Sl=>x.v) (λ_=>rfl) jZ;have hx:=hp.all k _ _ (a8 jZ) (a8 hlt);have h1:=PN ll (k+1);have h2:=congrArg List.length (hnext k hlt);rw[aq]at h2;refine wk ?_;refine Rel.eJ H (i:=0) rfl hx aa ?_;clear H;intro rn w H;rw[<-hnext k hlt]at H;refine wk ?_;exact⟨sB,(k+1,rn),sB,⟨aa,H.sx⟩,aa⟩
end
abbrev nS:=UInt8×Sl
abbrev wW(c:nS):aD:=[bv c.1,c.2.v]
structure rJ(V:ae)(h:nS)(c:bO):Prop where
 id:h.1=c.1
 data:ay V h.2 c.2
theorem rJ.up(V V':ae)(x:nS)(y:bO)(hs:Sub V V')(h:rJ V x y):rJ V' x y:=⟨h.id,h.data.up hs⟩
section
variable{V W:ae}
structure WD(W V:ae)(res:Option (List bO))(v:ao)(w':ae):Prop where
 ex:∃(V':ae) (r:Sl),Sub V V'/\Rel W V [] V' w'/\(match res with
  | none=>v=.tuple #[.slice none 0 0,.bool false]
  | some cs=>v=.tuple #[r.v,.bool true]/\RL wW rJ V' r cs)
theorem acO(o:Option (List α))(O:List α)(x:α):(o.map (x::·)).map (O++·)=o.map ((O++[x])++·):=by
 cases o<;>simp
theorem aB.mh{l:ad}(h:ay V s l){i:Nat}(hi:i<l.length):Plain s.a/\V.cell? ⟨bD s.a,bw s.a+i,none⟩=some (.int .u8 (at8 l i:Nat)):=by
 obtain⟨g1,g2⟩:=h.aX (g:=bv) (λ_=>rfl) hi;exact⟨g1,by rw[g2,rL hi]⟩
theorem ae7(hV:Sub V W){s:Sl}{l:ad}(hs:ay V s l)(hl:l.length<=1099511627):aC 220 [s.v] W (WD W V (oI l)):=by
 have H:=Rel.start hV;refine eV Tryz.func220 74 [0,2,3,4,5,6,7,16,17,28,58] ?_;refine wk ?_;refine H.nA ?_;clear H;intro w bm H;refine wk ?_;refine Rel.uW (l:=[83,78,68,49]) Tryz.underlying22 Tryz.underlying5 H rfl ?_;clear H;intro V1 w hV1 hm H;refine wk ?_;refine(BW H.data (hs.up hV1) hm).use ?_;rintro v w⟨⟨r,rfl,hr⟩,K⟩;(replace H:=H.az K);have JR:([83,78,68,49]:ad).length=4:=rfl;rw[JR]at hr |-;by_cases hp:l.take 4=[83,78,68,49]
 rotate_left
 ·rw[show oI l=none by rw[oI,if_neg hp],decide_eq_false hp];refine wk ?_;exact⟨V1,⟨none,0,0⟩,hV1,H.sx,rfl⟩
 rw[show oI l=kI (l.drop 4)by rw[oI,if_pos hp],decide_eq_true hp];replace hr:=hr hp;obtain⟨L,hL⟩:∃L,L=l.drop 4:=⟨_,rfl⟩
 have P9:L.length<=1099511627:=by rw[hL];simp;omega
 rw[<-hL]at hr |-;replace H:=H.cb 279 2;refine wk ?_;refine aY (S:=Sl×ad×Sl×List nS×List bO) ah [0,5,16] (λk=>[(4,k.1.v),(6,k.2.2.1.v)]) (λk w'=>ay V1 k.1 k.2.1/\kI L=(kI k.2.1).map (k.2.2.2.2++·)/\k.2.1.length+k.2.2.2.2.length<=1099511627/\Pw rJ V1 k.2.2.2.1 k.2.2.2.2/\Rel W V [.row k.2.2.1 279 2 (k.2.2.2.1.flatMap wW)] V1 w') (λk _=>k.2.1.length) (r,L,⟨none,0,0⟩,[],[]) ?_;conv=>whnf
 refine⟨sB,⟨hr,ai,by simpa using P9,Pw.nil,H⟩,?_⟩;clear H;rintro⟨q,X,ro,os,O⟩w⟨hq,hch,Qj,hpw,H⟩;dsimp only at hq hch Qj hpw H |-;have eW:=hq.len;have CQ:=hq.cap;have hpl:=hpw.len;have mq:=BS X;have c0:=λh=>hq.mh (i:=0) h;have c1:=λh=>hq.mh (i:=1) h;have c2:=λh=>hq.mh (i:=2) h;have ZO:X.length=1/\at8 X 0=0->kI L=some O:=λh=>by rw[hch,mq,if_pos h];simp
 have zW:¬(X.length=1/\at8 X 0=0)->(X.length<3\/at8 X 0<65\/90<at8 X 0)->kI L=none:=λh h2=>by rw[hch,mq,if_neg h,if_pos h2];rfl
 by_cases h0:X.length=0
 ·rw[zW aa aa];refine wk ?_;exact⟨V1,⟨none,0,0⟩,hV1,H.sx,rfl⟩
 obtain⟨p0,d0⟩:=c0 aa;have va:at8 X 0<256:=dY _;by_cases h1:X.length=1/\at8 X 0=0
 ·obtain⟨PZ,Jc⟩:=h1;rw[ZO ⟨PZ,Jc⟩];rw[Jc]at d0;refine wk ?_;obtain⟨V2,hV2,H,hro⟩:=Rel.aT H (λ_=>rfl) ag;exact⟨V2,ro,hV1.trans hV2,H.sx,rfl,os,hro,hpw.up rJ.up hV2⟩
 have zW:=zW h1;by_cases h3:X.length<3
 ·rw[zW aa];by_cases cY:X.length=1
  all_goals
   refine wk ?_;exact⟨V1,⟨none,0,0⟩,hV1,H.sx,rfl⟩
 by_cases h65:at8 X 0<65
 ·rw[zW aa];refine wk ?_;exact⟨V1,⟨none,0,0⟩,hV1,H.sx,rfl⟩
 by_cases h90:90<at8 X 0
 ·rw[zW aa];refine wk ?_;exact⟨V1,⟨none,0,0⟩,hV1,H.sx,rfl⟩
 obtain⟨_,d1⟩:=c1 aa;obtain⟨_,d2⟩:=c2 aa;have aaj:at8 X 1<256:=dY _;have aal:at8 X 2<256:=dY _;have iN:bN .or .i64 ((at8 X 1:Int)*256) (at8 X 2:Int)=((ei X:Nat):Int):=yu aaj aal;have hcl:ei X<=65535:=by unfold ei;omega
 refine wk ?_;(first|refine dV 9 [] [0,1,2,3,4,5,6,7,8,9,10] H ?_|refine dV 12 [] [0,1,2,3,4,5,6,7,8,9,10,11] H ?_);clear H;intro w H;refine wk ?_;rw[iF];refine wk ?_;rw[iN];refine wk ?_;by_cases hn:X.length-3<ei X
 ·have:kI L=none:=by rw[hch,mq,if_neg h1,if_neg aa,if_pos hn];rfl
  rw[this];refine wk ?_;exact⟨V1,⟨none,0,0⟩,hV1,H.sx,rfl⟩
 have aaI:kI L=(kI (X.drop (3+ei X))).map ((O++[(X[0]?.getD 0,(X.drop 3).take (ei X))])++·):=by
  rw[hch,mq,if_neg h1,if_neg aa,if_neg hn,acO]
 have hs1:=hq.sub (n:=1) (λ_=>rfl) (a:=3) (b:=3+ei X) aa aa;have dj:=hq.sub (n:=1) (λ_=>rfl) (a:=3+ei X) (b:=q.len) aa aa;have hd3:(X.take (3+ei X)).drop 3=(X.drop 3).take (ei X):=by rw[List.drop_take,Nat.add_sub_cancel_left]
 rw[hd3]at hs1;rw[eW,fR]at dj;refine wk ?_;(first|refine dV 9 [] [0,1,2,3,4,5,6,7,8,9,10] H ?_|refine dV 12 [] [0,1,2,3,4,5,6,7,8,9,10,11] H ?_);clear H;intro w H;refine H.wg ?_;clear H;intro _ w H;refine Rel.dC (f:=wW) (l:=os) (x:=(X[0]?.getD 0,⟨aU q.a 3 q.cap 1,3+ei X-3,q.cap-3⟩)) ah rfl rfl rfl rfl rfl ag (λ_=>rfl) (bj.1 rfl) H (by simp;omega) aa ?_;clear H;intro rn w H;refine wk ?_;refine⟨sB,(⟨aU q.a (3+ei X) q.cap 1,q.len-(3+ei X),q.cap-(3+ei X)⟩,X.drop (3+ei X),rn,os++[(X[0]?.getD 0,⟨aU q.a 3 q.cap 1,3+ei X-3,q.cap-3⟩)],O++[(X[0]?.getD 0,(X.drop 3).take (ei X))]),sB,⟨?_,aaI,by simp;omega,hpw.snoc ⟨rfl,hs1⟩,H.sx⟩,by simp;omega⟩;rw[<-eW]at dj;exact dj
end
abbrev lK(n:Nat):aD:=[iv (n:Int)]
abbrev fmtC(rate ch coding:Nat):aD:=[iv rate,iv ch,iv coding]
section
variable{V W:ae}
theorem iw(hV:Sub V W)(rate ch coding:Nat):aC 223 [.agg (fmtC rate ch coding).toArray] W λv w'=>v=iv ((coding%2+1:Nat):Int)/\Rel W V [] V w':=by
 have H:=Rel.start hV;refine eV Tryz.func223 7 [0,1,2] ?_;refine wk ?_;refine H.nA ?_;clear H;intro w b1 H;refine wk ?_;exact H.sx
theorem LV(w:Bool)(l:ad):∀r∈fI w l,r<dw w:=by
 intro r hr;have hb:∀i,at8 l i<256:=λi=>dY _;unfold fI at hr;unfold dw;split at hr
 ·rename_i hw;obtain⟨k,_,rfl⟩:=cG.1 hr;rw[if_pos hw];have:=hb (2*k);have:=hb (2*k+1);omega
 ·rename_i hw;obtain⟨k,_,rfl⟩:=cG.1 hr;rw[if_neg hw];exact hb k
theorem Hl{df:Bool}{ch full:Nat}(hf:0<full):∀(n:Nat) (l:au),l.length=n->(∀r∈l,r<full)->∀r∈eB df ch full l,r<full
 | 0,l,hn,_=>by rw[bL hn];simp[ahW]
 | n+1,l,hn,h=>by
  obtain⟨i,x,rfl⟩:∃i x,l=i++[x]:=by
   rcases yC l with rfl|⟨i,x,rfl⟩
   ·simp at hn
   ·exact⟨i,x,ai⟩
  intro r hr;rw[Hm]at hr;rcases cq.1 hr with hr|hr
  ·exact Hl hf n i (by simpa using hn) (λy hy=>h y (by simp[hy])) r hr
  ·rw[cv]at hr;rw[hr];split
   ·exact Lu _ hf
   ·exact h x ai
theorem VD(h:∀r∈l,r<full)(hf:0<full)(i:Nat):(eB df ch full l)[i]?.getD 0<full:=by
 by_cases hi:i<(eB df ch full l).length
 ·rw[a8 hi];exact Hl hf _ l rfl h _ (cj hi)
 ·rw[jk aa];exact hf
theorem Y7(hV:Sub V W){rate ch coding:Nat}(hc:coding<4)(hch:1<=ch/\ch<=2){s:Sl}{l:ad}(hs:ay V s l)(hl:l.length<=1000000)(hev:aV coding=true->l.length%2=0) :
  aC 224 [.agg (fmtC rate ch coding).toArray,s.v] W λv w'=>∃r:Sl,v=r.v/\Rel W V [.row r 3 1 ((e9 l coding ch).flatMap cK)] V w':=by
 have H:=Rel.start hV;have hlen:=hs.len;refine eV Tryz.func224 77 [0,1,2,4,5,6,7,8,9,10,14,26,48,61,67] ?_;refine wk ?_;refine H.nA ?_;clear H;intro w b2 H;replace H:=H.cb 3 1;replace H:=H.cb 3 1;refine wk ?_;refine aY (S:=Nat×Sl×Sl) ah [0,1,2,4] (λk=>[(5,k.2.1.v),(6,k.2.2.v),(7,iv ((k.1*(coding%2+1):Nat):Int))]) (λk w'=>k.1<=(fI (aV coding) l).length/\Rel W V [.row k.2.2 3 1 (((eB (dT coding) ch (dw (aV coding)) ((fI (aV coding) l).take k.1)).map (eH (aV coding))).flatMap cK),.row k.2.1 3 1 (((eB (dT coding) ch (dw (aV coding)) ((fI (aV coding) l).take k.1))).flatMap lK),.ax b2 (fmtC rate ch coding) 171] V w') (λk _=>(fI (aV coding) l).length-k.1) (0,⟨none,0,0⟩,⟨none,0,0⟩) ?_;conv=>whnf
 refine⟨⟨rfl,rfl,?_,trivial⟩,⟨aa,H⟩,?_⟩
 ·simp;rfl
 clear H;rintro⟨k,r5,r6⟩w⟨hk,H⟩;dsimp only at hk H |-;have hrl:=sO (aV coding) l;have Jk:(eB (dT coding) ch (dw (aV coding)) ((fI (aV coding) l).take k)).length=k:=by rw[yZ,bb];omega
 have kL:∀i:Nat,(eB (dT coding) ch (dw (aV coding)) ((fI (aV coding) l).take k))[i]?.getD 0<dw (aV coding):=λi=>VD (λr hr=>LV _ _ r (AW hr)) (by unfold dw;split<;>omega) i;by_cases hlt:k<(fI (aV coding) l).length;rotate_left
 ·rw[bR aa]at H;have hkv:¬((k*(coding%2+1):Nat):Int)<(s.len:Int):=by
   obtain rfl|rfl|rfl|rfl:coding=0\/coding=1\/coding=2\/coding=3:=aa
   ·have:=hrl.trans (if_neg (by decide:¬aV 0=true));simp only[Nat.reduceMod];omega
   ·have:=hrl.trans (if_pos (by decide:aV 1=true));have:=hev ag;simp only[Nat.reduceMod];omega
   ·have:=hrl.trans (if_neg (by decide:¬aV 2=true));simp only[Nat.reduceMod];omega
   ·have:=hrl.trans (if_pos (by decide:aV 3=true));have:=hev ag;simp only[Nat.reduceMod];omega
  refine wk ?_;exact⟨r6,rfl,H.sx⟩
 have fh:=λr h=>VE (df:=dT coding) (ch:=ch) (full:=dw (aV coding)) (l:=fI (aV coding) l) (k:=k) (r:=r) h;obtain⟨U,hU⟩:∃U,U=eB (dT coding) ch (dw (aV coding)) ((fI (aV coding) l).take k):=⟨_,rfl⟩
 rw[<-hU]at Jk H;simp only[<-hU]at fh kL;have vm:=(H.eG (i:=1) rfl (λ_=>rfl) ag).len;have oh:=(H.eG (i:=0) rfl (λ_=>rfl) ag).len;rw[bu]at oh;have f256:dw false=256:=rfl;have f65:dw true=65536:=rfl;obtain rfl|rfl|rfl|rfl:coding=0\/coding=1\/coding=2\/coding=3:=aa
 ·have hw:aV 0=false:=rfl;have hd:dT 0=false:=rfl;simp only[hw,hd]at hrl fh kL H hk hlt |-;rw[if_neg ai]at hrl;have fh:=fh _ (GC aa);rw[if_neg ai]at fh;obtain⟨p0,d0⟩:=hs.mh (i:=k) aa;have hand:bN .and .i64 0 2=0:=by decide +kernel
  have va:at8 l k<256:=dY _;have hv:eH false (at8 l k)=((at8 l k:Int)-128)*256:=rfl;simp only[Nat.zero_mod,dU,uj];refine wk ?_;refine(iw H.data rate ch 0).use ?_;rintro q w⟨rfl,K⟩;(replace H:=H.az K);refine H.wg ?_;clear H;intro _ w H;refine Rel.dI (f:=lK) (l:=U) (x:=at8 l k) ah rfl rfl rfl rfl rfl ag (λ_=>rfl) (bj.1 rfl) H (by simp;omega) aa ?_;clear H;intro gM w H;refine H.wg ?_;clear H;intro _ w H;refine Rel.dC (f:=cK) (l:=U.map (eH false)) (x:=((at8 l k:Int)-128)*256) ah rfl rfl rfl rfl rfl ag (λ_=>rfl) (bj.1 rfl) H (by simp only[bu];omega) (by simp only[bu];omega) ?_;clear H;intro lf w H;refine wk ?_;refine(iw H.data rate ch 0).use ?_;rintro q w⟨rfl,K⟩;(replace H:=H.az K);refine wk ?_;refine⟨sB,(k+1,gM,lf),⟨rfl,rfl,congrArg (λz=>some (Value.int .i64 z)) (by simp only[Nat.reduceMod,Nat.reduceAdd];omega),trivial⟩,⟨by dsimp only;omega,?_⟩,by dsimp only;omega⟩;dsimp only;have fp:=fh;try simp only[f256,f65]at fp
  try simp only[f256,f65]
  rw[fp,eZ,fq,kx,hv];exact H.sx
 ·have hw:aV 1=true:=rfl;have hd:dT 1=false:=rfl;simp only[hw,hd]at hrl fh kL H hk hlt |-;rw[if_pos ai]at hrl;have hl2:=hev rfl;obtain⟨u,hu0⟩:∃u,u=256*at8 l (k*2+1)+at8 l (k*2):=⟨_,rfl⟩
  have fh:=fh u (by rw[DK aa,mM 2 k,hu0,uk]);obtain⟨p0,d0⟩:=hs.mh (i:=k*2) aa;obtain⟨p1,d1⟩:=hs.mh (i:=k*2+1) aa;have hand:bN .and .i64 1 2=(if 1=3 then 2 else 0):=by decide +kernel
  have va:at8 l (k*2)<256:=dY _;have Cd:at8 l (k*2+1)<256:=dY _;have Fy:u<65536:=aa;simp only[Nat.reduceMod,Nat.reduceAdd];rw[if_neg ai]at fh;refine wk ?_;refine(iw H.data rate ch 1).use ?_;rintro q w⟨rfl,K⟩;(replace H:=H.az K);refine wk ?_;rw[show(((k*2:Nat):Int)+1)=((k*2+1:Nat):Int)by omega];refine wk ?_;rw[iF];refine H.wg ?_;clear H;intro _ w H;rw[F3 Cd va,<-hu0];try rw[F3 Cd va,<-hu0]at H
  refine wk ?_;refine wk ?_;refine Rel.dI (f:=lK) (l:=U) (x:=u) ah rfl rfl rfl rfl rfl ag (λ_=>rfl) (bj.1 rfl) H (by simp;omega) aa ?_;clear H;intro gM w H;refine wk ?_;by_cases h32:32768<=u
  ·have hv:eH true u=(u:Int)-65536:=if_pos h32;refine H.wg ?_;clear H;intro _ w H;refine Rel.dC (f:=cK) (l:=U.map (eH true)) (x:=(u:Int)-65536) ah rfl rfl rfl rfl rfl ag (λ_=>rfl) (bj.1 rfl) H (by simp only[bu];omega) (by simp only[bu];omega) ?_;clear H;intro lf w H;refine wk ?_;refine(iw H.data rate ch 1).use ?_;rintro q w⟨rfl,K⟩;(replace H:=H.az K);refine wk ?_;refine⟨sB,(k+1,gM,lf),⟨rfl,rfl,congrArg (λz=>some (Value.int .i64 z)) (by simp only[Nat.reduceMod,Nat.reduceAdd];omega),trivial⟩,⟨by dsimp only;omega,?_⟩,by dsimp only;omega⟩;dsimp only;have fp:=fh;try simp only[f256,f65]at fp
   try simp only[f256,f65]
   rw[fp,eZ,fq,kx,hv];exact H.sx
  ·have hv:eH true u=(u:Int):=if_neg h32;refine H.wg ?_;clear H;intro _ w H;refine Rel.dC (f:=cK) (l:=U.map (eH true)) (x:=(u:Int)) ah rfl rfl rfl rfl rfl ag (λ_=>rfl) (bj.1 rfl) H (by simp only[bu];omega) (by simp only[bu];omega) ?_;clear H;intro lf w H;refine wk ?_;refine(iw H.data rate ch 1).use ?_;rintro q w⟨rfl,K⟩;(replace H:=H.az K);refine wk ?_;refine⟨sB,(k+1,gM,lf),⟨rfl,rfl,congrArg (λz=>some (Value.int .i64 z)) (by simp only[Nat.reduceMod,Nat.reduceAdd];omega),trivial⟩,⟨by dsimp only;omega,?_⟩,by dsimp only;omega⟩;dsimp only;have fp:=fh;try simp only[f256,f65]at fp
   try simp only[f256,f65]
   rw[fp,eZ,fq,kx,hv];exact H.sx
 ·have hw:aV 2=false:=rfl;have hd:dT 2=true:=rfl;simp only[hw,hd]at hrl fh kL H hk hlt |-;rw[if_neg ai]at hrl;have fh:=fh _ (GC aa);rw[f256]at fh;obtain⟨p0,d0⟩:=hs.mh (i:=k) aa;have hand:bN .and .i64 2 2=2:=by decide +kernel
  have va:at8 l k<256:=dY _;simp only[Nat.reduceMod,dU,uj];refine wk ?_;refine(iw H.data rate ch 2).use ?_;rintro q w⟨rfl,K⟩;(replace H:=H.az K);refine wk ?_;by_cases hdf:ch<=k
  ·rw[if_pos (by simp[hdf])]at fh;have S5:=H.eG (i:=1) rfl (λ_=>rfl) ag;obtain⟨q0,e0⟩:=S5.aX (g:=λn:Nat=>iv (n:Int)) (λ_=>rfl) (i:=k-ch) aa;have ej:((r5.len:Int)-(ch:Int))=((k-ch:Nat):Int):=aa;obtain⟨u,hu⟩:∃u,u=(at8 l k+U[k-ch]?.getD 0)%256:=⟨_,rfl⟩
   have Cz:=kL (k-ch);simp only[f256,f65]at Cz;rw[<-hu]at fh;have hx0:U[k-ch]?.getD 0=U[k-ch]:=by rw[a8 aa];rfl
   rw[hx0]at Cz hu;refine wk ?_;have ez:(((at8 l k:Nat):Int)+((U[k-ch]:Nat):Int))%256=((u:Nat):Int):=aa;rw[ej];refine H.wg ?_;clear H;intro _ w H;try rw[ez]at H
   rw[ez];have Fy:u<256:=aa;have hv:eH false u=((u:Int)-128)*256:=rfl;refine wk ?_;refine Rel.dI (f:=lK) (l:=U) (x:=u) ah rfl rfl rfl rfl rfl ag (λ_=>rfl) (bj.1 rfl) H (by simp;omega) aa ?_;clear H;intro gM w H;refine H.wg ?_;clear H;intro _ w H;refine Rel.dC (f:=cK) (l:=U.map (eH false)) (x:=((u:Int)-128)*256) ah rfl rfl rfl rfl rfl ag (λ_=>rfl) (bj.1 rfl) H (by simp only[bu];omega) (by simp only[bu];omega) ?_;clear H;intro lf w H;refine wk ?_;refine(iw H.data rate ch 2).use ?_;rintro q w⟨rfl,K⟩;(replace H:=H.az K);refine wk ?_;refine⟨sB,(k+1,gM,lf),⟨rfl,rfl,congrArg (λz=>some (Value.int .i64 z)) (by simp only[Nat.reduceMod,Nat.reduceAdd];omega),trivial⟩,⟨by dsimp only;omega,?_⟩,by dsimp only;omega⟩;dsimp only;have fp:=fh;try simp only[f256,f65]at fp
   try simp only[f256,f65]
   rw[fp,eZ,fq,kx,hv];exact H.sx
  ·rw[if_neg (λh=>hdf h.2)]at fh;have hv:eH false (at8 l k)=((at8 l k:Int)-128)*256:=rfl;refine H.wg ?_;clear H;intro _ w H;refine wk ?_;refine Rel.dI (f:=lK) (l:=U) (x:=at8 l k) ah rfl rfl rfl rfl rfl ag (λ_=>rfl) (bj.1 rfl) H (by simp;omega) aa ?_;clear H;intro gM w H;refine H.wg ?_;clear H;intro _ w H;refine Rel.dC (f:=cK) (l:=U.map (eH false)) (x:=((at8 l k:Int)-128)*256) ah rfl rfl rfl rfl rfl ag (λ_=>rfl) (bj.1 rfl) H (by simp only[bu];omega) (by simp only[bu];omega) ?_;clear H;intro lf w H;refine wk ?_;refine(iw H.data rate ch 2).use ?_;rintro q w⟨rfl,K⟩;(replace H:=H.az K);refine wk ?_;refine⟨sB,(k+1,gM,lf),⟨rfl,rfl,congrArg (λz=>some (Value.int .i64 z)) (by simp only[Nat.reduceMod,Nat.reduceAdd];omega),trivial⟩,⟨by dsimp only;omega,?_⟩,by dsimp only;omega⟩;dsimp only;have fp:=fh;try simp only[f256,f65]at fp
   try simp only[f256,f65]
   rw[fp,eZ,fq,kx,hv];exact H.sx
 ·have hw:aV 3=true:=rfl;have hd:dT 3=true:=rfl;simp only[hw,hd]at hrl fh kL H hk hlt |-;rw[if_pos ai]at hrl;have hl2:=hev rfl;obtain⟨u,hu0⟩:∃u,u=256*at8 l (k*2+1)+at8 l (k*2):=⟨_,rfl⟩
  have fh:=fh u (by rw[DK aa,mM 2 k,hu0,uk]);obtain⟨p0,d0⟩:=hs.mh (i:=k*2) aa;obtain⟨p1,d1⟩:=hs.mh (i:=k*2+1) aa;have hand:bN .and .i64 3 2=(if 3=3 then 2 else 0):=by decide +kernel
  have va:at8 l (k*2)<256:=dY _;have Cd:at8 l (k*2+1)<256:=dY _;have Fy:u<65536:=aa;simp only[Nat.reduceMod,Nat.reduceAdd];rw[f65]at fh;refine wk ?_;refine(iw H.data rate ch 3).use ?_;rintro q w⟨rfl,K⟩;(replace H:=H.az K);refine wk ?_;rw[show(((k*2:Nat):Int)+1)=((k*2+1:Nat):Int)by omega];refine wk ?_;rw[iF];refine wk ?_;rw[F3 Cd va,<-hu0];try rw[F3 Cd va,<-hu0]at H
  refine wk ?_;by_cases hdf:ch<=k
  ·rw[if_pos (by simp[hdf])]at fh;obtain⟨y,hy⟩:∃y,y=u:=⟨_,rfl⟩
   rw[<-hy]at Fy fh |-;clear hy hu0 u;have S5:=H.eG (i:=1) rfl (λ_=>rfl) ag;obtain⟨q0,e0⟩:=S5.aX (g:=λn:Nat=>iv (n:Int)) (λ_=>rfl) (i:=k-ch) aa;have ej:((r5.len:Int)-(ch:Int))=((k-ch:Nat):Int):=aa;obtain⟨u,hu⟩:∃u,u=(y+U[k-ch]?.getD 0)%65536:=⟨_,rfl⟩
   have Cz:=kL (k-ch);simp only[f256,f65]at Cz;rw[<-hu]at fh;have hx0:U[k-ch]?.getD 0=U[k-ch]:=by rw[a8 aa];rfl
   rw[hx0]at Cz hu;refine wk ?_;have ez:(((y:Nat):Int)+((U[k-ch]:Nat):Int))%65536=((u:Nat):Int):=aa;rw[ej];refine H.wg ?_;clear H;intro _ w H;try rw[ez]at H
   rw[ez];have Fy:u<65536:=aa;refine wk ?_;refine Rel.dI (f:=lK) (l:=U) (x:=u) ah rfl rfl rfl rfl rfl ag (λ_=>rfl) (bj.1 rfl) H (by simp;omega) aa ?_;clear H;intro gM w H;refine wk ?_;by_cases h32:32768<=u
   ·have hv:eH true u=(u:Int)-65536:=if_pos h32;refine H.wg ?_;clear H;intro _ w H;refine Rel.dC (f:=cK) (l:=U.map (eH true)) (x:=(u:Int)-65536) ah rfl rfl rfl rfl rfl ag (λ_=>rfl) (bj.1 rfl) H (by simp only[bu];omega) (by simp only[bu];omega) ?_;clear H;intro lf w H;refine wk ?_;refine(iw H.data rate ch 3).use ?_;rintro q w⟨rfl,K⟩;(replace H:=H.az K);refine wk ?_;refine⟨sB,(k+1,gM,lf),⟨rfl,rfl,congrArg (λz=>some (Value.int .i64 z)) (by simp only[Nat.reduceMod,Nat.reduceAdd];omega),trivial⟩,⟨by dsimp only;omega,?_⟩,by dsimp only;omega⟩;dsimp only;have fp:=fh;try simp only[f256,f65]at fp
    try simp only[f256,f65]
    rw[fp,eZ,fq,kx,hv];exact H.sx
   ·have hv:eH true u=(u:Int):=if_neg h32;refine H.wg ?_;clear H;intro _ w H;refine Rel.dC (f:=cK) (l:=U.map (eH true)) (x:=(u:Int)) ah rfl rfl rfl rfl rfl ag (λ_=>rfl) (bj.1 rfl) H (by simp only[bu];omega) (by simp only[bu];omega) ?_;clear H;intro lf w H;refine wk ?_;refine(iw H.data rate ch 3).use ?_;rintro q w⟨rfl,K⟩;(replace H:=H.az K);refine wk ?_;refine⟨sB,(k+1,gM,lf),⟨rfl,rfl,congrArg (λz=>some (Value.int .i64 z)) (by simp only[Nat.reduceMod,Nat.reduceAdd];omega),trivial⟩,⟨by dsimp only;omega,?_⟩,by dsimp only;omega⟩;dsimp only;have fp:=fh;try simp only[f256,f65]at fp
    try simp only[f256,f65]
    rw[fp,eZ,fq,kx,hv];exact H.sx
  ·rw[if_neg (λh=>hdf h.2)]at fh;refine H.wg ?_;clear H;intro _ w H;refine wk ?_;refine Rel.dI (f:=lK) (l:=U) (x:=u) ah rfl rfl rfl rfl rfl ag (λ_=>rfl) (bj.1 rfl) H (by simp;omega) aa ?_;clear H;intro gM w H;refine wk ?_;by_cases h32:32768<=u
   ·have hv:eH true u=(u:Int)-65536:=if_pos h32;refine H.wg ?_;clear H;intro _ w H;refine Rel.dC (f:=cK) (l:=U.map (eH true)) (x:=(u:Int)-65536) ah rfl rfl rfl rfl rfl ag (λ_=>rfl) (bj.1 rfl) H (by simp only[bu];omega) (by simp only[bu];omega) ?_;clear H;intro lf w H;refine wk ?_;refine(iw H.data rate ch 3).use ?_;rintro q w⟨rfl,K⟩;(replace H:=H.az K);refine wk ?_;refine⟨sB,(k+1,gM,lf),⟨rfl,rfl,congrArg (λz=>some (Value.int .i64 z)) (by simp only[Nat.reduceMod,Nat.reduceAdd];omega),trivial⟩,⟨by dsimp only;omega,?_⟩,by dsimp only;omega⟩;dsimp only;have fp:=fh;try simp only[f256,f65]at fp
    try simp only[f256,f65]
    rw[fp,eZ,fq,kx,hv];exact H.sx
   ·have hv:eH true u=(u:Int):=if_neg h32;refine H.wg ?_;clear H;intro _ w H;refine Rel.dC (f:=cK) (l:=U.map (eH true)) (x:=(u:Int)) ah rfl rfl rfl rfl rfl ag (λ_=>rfl) (bj.1 rfl) H (by simp only[bu];omega) (by simp only[bu];omega) ?_;clear H;intro lf w H;refine wk ?_;refine(iw H.data rate ch 3).use ?_;rintro q w⟨rfl,K⟩;(replace H:=H.az K);refine wk ?_;refine⟨sB,(k+1,gM,lf),⟨rfl,rfl,congrArg (λz=>some (Value.int .i64 z)) (by simp only[Nat.reduceMod,Nat.reduceAdd];omega),trivial⟩,⟨by dsimp only;omega,?_⟩,by dsimp only;omega⟩;dsimp only;have fp:=fh;try simp only[f256,f65]at fp
    try simp only[f256,f65]
    rw[fp,eZ,fq,kx,hv];exact H.sx
end
theorem GJ{v:ao}:∀ {c:aD} {o:Nat} {k:aD->Prop},o<c.length->k (c.set o v)->fS c o [v] k
 | [],o,k,h,_=>by simp at h
 | u::c,0,k,_,hk=>by
  show fS c 0 [] λr=>k (v::r);cases c<;>exact hk
 | u::c,o+1,k,h,hk=>by
  show fS c o [v] λr=>k (u::r);exact GJ (by simpa using h) hk
section
variable{V W:ae}
theorem Rel.G6{w0 V0 w:ae}{own:bU}(H:Rel w0 V0 own V w){i:Nat}{s:Sl}{e:TypeId}{xs:aD}(hi:own[i]?=some (.row s e 1 xs))(j:Nat)(hj:j<s.len){b o:Nat}(hb:b=bD s.a)(ho:o=bw s.a+j){v:ao}{k:ae->Prop}
  (hk:∀w',Rel w0 V0 (own.set i (.row s e 1 (xs.set j v))) V w'->k w'):∃c t',nR w b c t'/\fS c o [v] λc'=>∀w',ma w b c' t' w'->k w':=by
 have hr:=H.rowAt hi;rcases hr.at_ with⟨_,h2,_⟩|⟨b0,cur,h1,h2,h3,h4,h5,h6⟩
 ·omega
 ·rw[h1]at hb ho;simp only[bD,bw,dU]at hb ho;subst hb ho;have hbl:nR w b cur.toList e:=h2;refine⟨cur.toList,e,hbl,GJ (by rw[ud,h5];omega) λw' hu=>hk w' ?_⟩;have hu':=hu;obtain⟨fz,cs,vx,rfl⟩:=hu.wd;refine H.put hi rfl rfl rfl ai (λk _ hk=>hu'.other λe=>hk (by rw[e];simp[aN.at_,h1])) ⟨by rw[List.length_set,hr.len],.inr ⟨b,(cur.toList.set o v).toArray,h1,hu'.row hbl ai,h3,h4,by simp[h5],?_⟩⟩ λk hk=>.inl hk;rw[<-h6];simp[List.take_set]
end
theorem ah1(w:Bool)(v:Int):dz w v<dw w:=by
 unfold dz dw;split<;>omega
theorem D4(w:Bool)(l:List Int)(i:Nat):(l.map (dz w))[i]?.getD 0<dw w:=by
 rw[eu];cases l[i]? with
 | none=>show 0<dw w;unfold dw;split<;>omega
 | some x=>exact ah1 w x
theorem aht(hf:0<full)(h:∀i:Nat,l[i]?.getD 0<full)(i:Nat):hY df ch full l i<full:=by
 unfold hY;split
 ·exact Lu _ hf
 ·exact h i
def qQ(w df:Bool)(ch:Nat)(U:au)(k:Nat):ad:=(List.range k).flatMap λi=>gF w (hY df ch (dw w) U i)
theorem Dt(w df:Bool)(ch:Nat)(U:au)(k:Nat):qQ w df ch U (k+1)=qQ w df ch U k++gF w (hY df ch (dw w) U k):=by
 unfold qQ;rw[sK,bT];simp
theorem F6(w df:Bool)(ch:Nat)(U:au)(k:Nat):(qQ w df ch U k).length<=2*k:=by
 induction k with
 | zero=>simp[qQ]
 | succ k ih =>
  rw[Dt,aq];have:(gF w (hY df ch (dw w) U k)).length<=2:=by unfold gF;split<;>simp
  omega
theorem agE(l:List Int)(coding ch:Nat):lj l coding ch=qQ (aV coding) (dT coding) ch (l.map (dz (aV coding))) l.length:=rfl
theorem UX{l:List α}{x:α}(hk:k<l.length)(h1:x∉l.take k)(h2:x≠l[k]):x∉l.take (k+1):=by
 rw[bZ hk,cq];rintro(h|h)
 ·exact h1 h
 ·exact h2 (cv.1 h)
theorem Em{p:α->Bool}{l:List α}(hk:k<l.length):(l.take (k+1)).any p=((l.take k).any p||p l[k]):=by
 rw[bZ hk,List.any_append];simp
section
variable{V W:ae}
theorem YI(hV:Sub V W){s:Sl}{l:bg}(hs:Nt V s l)(hl:l.length<=1099511627776)(x:ad):aC 328 [s.v,str x] W λv w'=>v=.bool (decide (x∈l))/\Rel W V [] V w':=by
 have key:aC 353 [s.v,str x] W λv w'=>(∃i:Int,v=iv i/\(0<=i↔x∈l))/\Rel W V [] V w':=by
  have H:=Rel.start hV;have hlen:=hs.len;refine eV Tryz.func353 19 [0,1,4,5,7,8,9,16] ?_;refine wk ?_;refine aY (S:=Nat) ah [0,1,7] (λk=>[(8,iv k)]) (λk w'=>k<=l.length/\x∉l.take k/\Rel W V [] V w') (λk _=>l.length-k) 0 ?_;conv=>whnf
  refine⟨sB,⟨aa,ai,H⟩,?_⟩;clear H;rintro k w⟨hk,hz,H⟩;by_cases hlt:k<l.length
  ·obtain⟨hp,hc⟩:=hs.rW (g:=str) (λ_=>rfl) hlt;refine wk ?_;refine gI (λh=>?_) (λh=>?_)
   ·refine wk ?_;exact⟨⟨k,rfl,λ_=>by rw[h];exact cj hlt,λ_=>by omega⟩,H.sx⟩
   ·refine wk ?_;exact⟨sB,k+1,sB,⟨aa,UX hlt hz h,H⟩,aa⟩
  ·refine wk ?_;refine⟨⟨-1,rfl,λh=>by omega,λh=>?_⟩,H.sx⟩;rw[bR aa]at hz;exact absurd h hz
 refine eV Tryz.func328 9 [0,1,4] ?_;conv=>whnf
 refine key.use ?_;rintro v w⟨⟨i,rfl,hi⟩,H⟩;conv=>whnf
 exact⟨by simp only[hi],H⟩
theorem YG(hV:Sub V W){s:Sl}{l:bg}(hs:Nt V s l)(hl:l.length<=1099511627776){g:FuncId}{caps:aD}(p:ad->Bool)
  (hg:∀(x:ad) (w:ae),Sub V w->oD g (str x::caps).toArray w λv w'=>v=.bool (p x)/\Rel w V [] V w') :
  aC 326 [s.v,.func (.func g) #[] caps.toArray] W λv w'=>v=.bool (l.any p)/\Rel W V [] V w':=by
 have key:aC 352 [s.v,.func (.func g) #[] caps.toArray] W λv w'=>(∃i:Int,v=iv i/\(0<=i↔l.any p=true))/\Rel W V [] V w':=by
  have H:=Rel.start hV;have hlen:=hs.len;refine eV Tryz.func352 19 [0,1,4,5,7,8,9,16] ?_;refine wk ?_;refine aY (S:=Nat) ah [0,1,7] (λk=>[(8,iv k)]) (λk w'=>k<=l.length/\(l.take k).any p=false/\Rel W V [] V w') (λk _=>l.length-k) 0 ?_;conv=>whnf
  refine⟨sB,⟨aa,ai,H⟩,?_⟩;clear H;rintro k w⟨hk,hz,H⟩;by_cases hlt:k<l.length
  ·obtain⟨hp,hc⟩:=hs.rW (g:=str) (λ_=>rfl) hlt;refine wk ?_;refine(hg l[k] _ H.data).use ?_;rintro v w⟨rfl,K⟩;replace H:=H.call K;conv=>whnf
   refine wY (λh1=>?_) (λh1=>?_)
   ·refine wk ?_;refine⟨⟨k,rfl,λ_=>?_,λ_=>by omega⟩,H⟩;rw[List.any_eq_true];exact⟨l[k],cj hlt,h1⟩
   ·refine wk ?_;exact⟨sB,k+1,sB,⟨aa,by rw[Em hlt,hz,h1];rfl,H⟩,aa⟩
  ·refine wk ?_;refine⟨⟨-1,rfl,λh=>by omega,λh=>?_⟩,H⟩;rw[bR aa]at hz;rw[hz]at h;cases h
 refine eV Tryz.func326 9 [0,1,4] ?_;conv=>whnf
 refine key.use ?_;rintro v w⟨⟨i,rfl,hi⟩,H⟩;conv=>whnf
 refine⟨?_,H⟩;simp only[hi];cases l.any p<;>rfl
end
section
variable{V W:ae}
theorem Il(hV:Sub V W){s:Sl}{l:List Int}(hs:aB cK V s l)(hl:l.length<=1099511627776)(x:Int):aC 239 [s.v,iv x] W λv w'=>v=.bool (decide (x∈l))/\Rel W V [] V w':=by
 have key:aC 283 [s.v,iv x] W λv w'=>(∃i:Int,v=iv i/\(0<=i↔x∈l))/\Rel W V [] V w':=by
  have H:=Rel.start hV;have hlen:=hs.len;refine eV Tryz.func283 19 [0,1,4,5,7,8,9,16] ?_;refine wk ?_;refine aY (S:=Nat) ah [0,1,7] (λk=>[(8,iv k)]) (λk w'=>k<=l.length/\x∉l.take k/\Rel W V [] V w') (λk _=>l.length-k) 0 ?_;conv=>whnf
  refine⟨sB,⟨aa,ai,H⟩,?_⟩;clear H;rintro k w⟨hk,hz,H⟩;by_cases hlt:k<l.length
  ·obtain⟨hp,hc⟩:=hs.rW (g:=iv) (λ_=>rfl) hlt;refine wk ?_;refine gI (λh=>?_) (λh=>?_)
   ·refine wk ?_;exact⟨⟨k,rfl,λ_=>by rw[h];exact cj hlt,λ_=>by omega⟩,H.sx⟩
   ·refine wk ?_;exact⟨sB,k+1,sB,⟨aa,UX hlt hz h,H⟩,aa⟩
  ·refine wk ?_;refine⟨⟨-1,rfl,λh=>by omega,λh=>?_⟩,H.sx⟩;rw[bR aa]at hz;exact absurd h hz
 refine eV Tryz.func239 9 [0,1,4] ?_;conv=>whnf
 refine key.use ?_;rintro v w⟨⟨i,rfl,hi⟩,H⟩;conv=>whnf
 exact⟨by simp only[hi],H⟩
theorem xB(hV:Sub V W){b:Nat}{k:Int}(hb:V.cell? ⟨b,0,none⟩=some (iv k)){s:Sl}{l:List Int}(hs:aB cK V s l)(hl:l.length<=1099511627776){p:Prop}[Decidable p](hp:p↔k∈l) :
  aC 325 [s.v,.pointer (some ⟨b,0,none⟩)] W λv w'=>v=.bool (decide p)/\Rel W V [] V w':=by
 have H:=Rel.start hV;refine eV Tryz.func325 8 [0,1,3] ?_;refine wk ?_;refine(Il H.data hs hl k).use ?_;rintro v w⟨rfl,K⟩;replace H:=H.call K;refine wk ?_;exact⟨by simp only[hp],H⟩
theorem adf(hV:Sub V W)(s:ad):aC 327 [str s] W λv w'=>v=.bool (!gx s)/\Rel W V [] V w':=by
 have H:=Rel.start hV;refine eV Tryz.func327 6 [0,2] ?_;refine wk ?_;refine(Si H.data s).use ?_;rintro v w⟨rfl,K⟩;replace H:=H.call K;refine wk ?_;exact H
end
section
variable{V W:ae}
theorem Yh(hV:Sub V W){h:VH}{v:ar}(hv:bV V h v)(hB:VB 1099511627776 v):aC 307 [fb h] W λr w'=>r=iv (fG v)/\Rel W V [] V w':=by
 have H:=Rel.start hV;have e1:=hv.kind;have e2:=hv.num;have l1:=hv.bytes.len;have l2:=hv.names.len;have l3:=hv.kt;have hns:=hv.names;have hnl:=hB.names;have hnc:=hns.cap;obtain⟨k,n,bs,ss,pl⟩:=h;dsimp only at e1 e2 l1 l2 l3 hns hnc;subst e1 e2;refine qo ah Tryz.func307 rfl aj 88 rfl ai [0,1,2,3,4,5,7,12,64,69,74,75,76,77,86] ?_;refine aP.dH ah ?_;refine wk ?_;refine H.nA ?_;clear H;intro w b1 H;refine wk ?_;obtain⟨V1,hV1,H,fE⟩:=H.bt;have hc1:∀j u,[iv v.kind,iv v.num,bs.v,ss.v,pl.v][j]?=some u->V1.cell? ⟨b1,0+j,none⟩=some u:=λj u hj=>by rw[dU];exact fE.bE hj
 have hk0:V1.cell? ⟨b1,0,none⟩=some (iv v.kind):=fE.bE rfl;replace hns:=hns.up hV1;have H0:=H;replace H:=Rel.start H.data;refine aP.dH ah ?_;refine wk ?_;refine aP.oH ah (λ_:Unit=>[(1,.pointer (some ⟨b1,0,none⟩))]) (λ_ w'=>((1<=v.kind/\v.kind<=4)/\¬ig v/\v.parts.length<=600/\v.names.any (λs=>!gx s)=false)/\Rel w V1 [] V1 w') ?_ ?_
 ·have n5:¬(1<=v.kind/\v.kind<=4)->fG v=5:=λh=>by rw[fG,if_pos h]
  have n6:(1<=v.kind/\v.kind<=4)->ig v->fG v=6:=λh h2=>by rw[fG,if_neg aa,if_pos h2]
  have n14:(1<=v.kind/\v.kind<=4)->¬ig v->600<v.parts.length->fG v=14:=λh h2 h3=>by rw[fG,if_neg aa,if_neg h2,if_pos h3]
  have n7:(1<=v.kind/\v.kind<=4)->¬ig v->¬600<v.parts.length->v.names.any (λs=>!gx s)=true->fG v=7:=λh h2 h3 h4=>by rw[fG,if_neg aa,if_neg h2,if_neg h3,if_pos h4]
  refine wk ?_;by_cases hr:1<=v.kind/\v.kind<=4;rotate_left
  ·refine H.nA ?_;clear H;intro w bh H;obtain⟨V2,hV2,H,mn⟩:=H.bt;refine wk ?_;refine(xB (s:=⟨some ⟨bh,0,none⟩,4,4⟩) (l:=[1,2,3,4]) (p:=1<=v.kind/\v.kind<=4) H.data (hV2.cell hk0) ⟨rfl,aK _,mn.cells⟩ ag (by simp;try omega)).use ?_;rintro v w⟨rfl,K⟩;(replace H:=H.az K);replace H:=H.back;refine wk ?_;exact⟨by rw[n5 hr],(H0.call H).back⟩
  refine H.nA ?_;clear H;intro w bh H;obtain⟨V2,hV2,H,mn⟩:=H.bt;refine wk ?_;refine(xB (s:=⟨some ⟨bh,0,none⟩,4,4⟩) (l:=[1,2,3,4]) (p:=1<=v.kind/\v.kind<=4) H.data (hV2.cell hk0) ⟨rfl,aK _,mn.cells⟩ ag (by simp;try omega)).use ?_;rintro v w⟨rfl,K⟩;(replace H:=H.az K);replace H:=H.back;refine wk ?_;have n6:=n6 hr;have n14:=n14 hr;have n7:=n7 hr;unfold ig at n6 n14 n7 |-;by_cases a1:v.num=0;all_goals by_cases k1:v.kind=1
  all_goals
   refine wk ?_
   try(
    refine H.nA ?_;clear H;intro w bh H
    obtain⟨V2,hV2,H,mn⟩:=H.bt
    refine wk ?_
    refine(xB (s:=⟨some ⟨bh,0,none⟩,1,1⟩) (l:=[1]) (p:=v.kind=1) H.data (hV2.cell hk0) ⟨rfl,aK _,mn.cells⟩ ag (by simp;try omega)).use ?_
    rintro v w⟨rfl,K⟩
    (replace H:=H.az K)
    replace H:=H.back
    refine wk ?_
    try exact⟨by rw[n6 aa],(H0.call H).back⟩)
  all_goals by_cases a2:v.bytes.length=0
  all_goals by_cases k2:v.kind=2
  all_goals first|(exfalso;omega)|skip
  all_goals
   refine wk ?_
   try(
    refine H.nA ?_;clear H;intro w bh H
    obtain⟨V2,hV2,H,mn⟩:=H.bt
    refine wk ?_
    refine(xB (s:=⟨some ⟨bh,0,none⟩,1,1⟩) (l:=[2]) (p:=v.kind=2) H.data (hV2.cell hk0) ⟨rfl,aK _,mn.cells⟩ ag (by simp;try omega)).use ?_
    rintro v w⟨rfl,K⟩
    (replace H:=H.az K)
    replace H:=H.back
    refine wk ?_
    try exact⟨by rw[n6 aa],(H0.call H).back⟩)
  all_goals by_cases a3:v.names.length=0
  all_goals by_cases k4:v.kind=4
  all_goals first|(exfalso;omega)|skip
  all_goals
   refine wk ?_
   try(
    refine H.nA ?_;clear H;intro w bh H
    obtain⟨V2,hV2,H,mn⟩:=H.bt
    refine wk ?_
    refine(xB (s:=⟨some ⟨bh,0,none⟩,1,1⟩) (l:=[4]) (p:=v.kind=4) H.data (hV2.cell hk0) ⟨rfl,aK _,mn.cells⟩ ag (by simp;try omega)).use ?_
    rintro v w⟨rfl,K⟩
    (replace H:=H.az K)
    replace H:=H.back
    refine wk ?_
    try exact⟨by rw[n6 aa],(H0.call H).back⟩)
  all_goals by_cases a4:v.parts.length=0
  all_goals
   refine wk ?_
   try(
    refine H.nA ?_;clear H;intro w bh H
    obtain⟨V2,hV2,H,mn⟩:=H.bt
    refine wk ?_
    refine(xB (s:=⟨some ⟨bh,0,none⟩,2,2⟩) (l:=[3,4]) (p:=3<=v.kind) H.data (hV2.cell hk0) ⟨rfl,aK _,mn.cells⟩ ag (by simp;try omega)).use ?_
    rintro v w⟨rfl,K⟩
    (replace H:=H.az K)
    replace H:=H.back
    refine wk ?_
    try exact⟨by rw[n6 aa],(H0.call H).back⟩)
  all_goals by_cases a5:v.names.length=v.parts.length
  all_goals first|(exfalso;omega)|skip
  all_goals
   refine wk ?_;refine H.nA ?_;clear H;intro w bh H;obtain⟨V2,hV2,H,mn⟩:=H.bt;refine wk ?_;refine(xB (s:=⟨some ⟨bh,0,none⟩,1,1⟩) (l:=[4]) (p:=v.kind=4) H.data (hV2.cell hk0) ⟨rfl,aK _,mn.cells⟩ ag (by simp;try omega)).use ?_;rintro v w⟨rfl,K⟩;(replace H:=H.az K);replace H:=H.back;refine wk ?_;try exact⟨by rw[n6 aa],(H0.call H).back⟩
  all_goals by_cases a6:600<v.parts.length
  all_goals first|(exfalso;omega)|skip
  all_goals
   refine wk ?_;try exact⟨by rw[n14 aa a6],(H0.call H).back⟩
  all_goals
   refine(YG H.data hns hnl (λs=>!gx s) (λx w hw=>adf hw x)).use ?_;rintro r w⟨rfl,K⟩;(replace H:=H.az K);refine wk ?_;refine wY (λh1=>?_) (λh1=>?_)
   ·refine wk ?_;exact⟨by rw[n7 aa a6 h1],(H0.call H).back⟩
   ·refine wk ?_;exact⟨(),sB,⟨aa,aa,aa,h1⟩,H⟩
 clear H;rintro _ w⟨⟨hr,hf,Je,aaw⟩,H⟩;have Qt:fG v=if v.names.Nodup then 0 else 8:=by
  rw[fG,if_neg aa,if_neg hf,if_neg aa,if_neg (by rw[aaw];simp)];by_cases hn:v.names.Nodup
  ·rw[if_neg (by simpa using hn),if_pos hn]
  ·rw[if_pos hn,if_neg hn]
 replace H:Rel W V [] V1 w:=H0.call H;refine aP.dH ah ?_;refine wk ?_;refine aY (S:=Nat) ah [0,1,3,7,12,64,69,74,75] (λk=>[(76,iv k)]) (λk w'=>k<=v.names.length/\(v.names.take k).Nodup/\Rel W V [] V1 w') (λk _=>v.names.length-k) 0 ?_;conv=>whnf
 refine⟨sB,⟨aa,ai,H⟩,?_⟩;clear H;rintro k w⟨hk,hz,H⟩;by_cases hlt:k<v.names.length;rotate_left
 ·rw[bR aa]at hz;refine wk ?_;refine aP.go ah ?_;refine wk ?_;exact⟨by rw[Qt,if_pos hz],H.back⟩
 obtain⟨hp,hc⟩:=hns.rW (g:=str) (λ_=>rfl) hlt;refine wk ?_;refine(YI H.data (hns.YQ (n:=1) (λ_=>rfl) (b:=k) aa) (by simp;omega) v.names[k]).use ?_;rintro r w⟨rfl,K⟩;(replace H:=H.az K);refine gI (λh5=>?_) (λh5=>?_)
 ·refine wk ?_;refine⟨?_,H.back⟩;rw[Qt,if_neg];intro hn;have h6:=hn.sublist (List.take_sublist (k+1) v.names);rw[bZ hlt,vU]at h6;exact h6.2.2 _ h5 _ ai rfl
 ·refine wk ?_;refine⟨sB,k+1,sB,⟨aa,?_,H⟩,aa⟩;rw[bZ hlt,vU];exact⟨hz,ai,λa ha b hb=>by rw[cv.1 hb];exact λe=>h5 (e▸ha)⟩
end
section
variable{V W:ae}
theorem IQ(hV:Sub V W)(c i:Int):aC 268 [iv c,iv i] W λv w'=>v=kg c i/\Rel W V [] V w':=by
 have H:=Rel.start hV;refine eV Tryz.func268 8 [0,1,4] ?_;refine H.wg ?_;clear H;intro _ _ w H;exact H.sx
def Yk(r:Except (Int×Int) Nat)(v:ao):Prop:=match r with
 | .ok m=>v=.tuple #[iv m,kg 0 0]
 | .error e=>v=.tuple #[iv 0,kg e.1 e.2]/\e.1≠0
theorem DQ:∀ {l:List (ar×Nat)} {n:Nat} {e:Int×Int},scan l n=.error e->e.1≠0
 | [],n,e,h=>by simp[scan]at h
 | (v,d)::l,n,e,h=>by
  simp only[scan]at h;split at h
  ·rename_i h1;cases h;exact h1
  ·exact DQ h
theorem Ic{d:Nat}{v:ar}(h:fe d v n=.ok m):n<m:=by
 obtain⟨h1,_⟩:=GW _ _ _ h;rw[Dw]at h1;simp at h1;omega
theorem Ie{d:Nat}{v:ar}(h:fe d v n=.ok m):m<=600:=by
 obtain⟨h1,h2⟩:=GW _ _ _ h;rcases Nat.lt_or_ge 600 m with h3|h3
 ·have h0:=Ic h;have h4:m-1-n<(pre d v).length:=aa;have h5:=h2 (m-1-n) ((pre d v)[m-1-n]).1 ((pre d v)[m-1-n]).2 (by rw[a8 h4]);unfold kH at h5;rw[if_pos aa]at h5;cases h5
 ·exact h3
theorem Yi:∀(N:Nat) {V W:ae},Sub V W->∀ {h:VH} {v:ar} {n d:Nat},SizeOf.sizeOf v<N->bV V h v->VB 1099511627776 v->n<=1000->d<=1000 ->
  aC 266 [fb h,iv n,iv (d+1)] W λr w'=>Yk (fe d v n) r/\Rel W V [] V w':=by
 intro N;induction N with
 | zero=>intro V W _ h v n d hs;omega
 | succ N ih =>
  intro V W hV h v n d hs hv hB hn hd;have H:=Rel.start hV;have l3:=hv.kt;have hpl:=hB.parts;have e0:=BR d v n;refine eV Tryz.func266 52 [0,1,2,3,6,7,8,9,11,12,18,24,31,32,33,34,47] ?_;refine wk ?_;refine H.nA ?_;clear H;intro w b3 H;refine wk ?_;refine H.nA ?_;clear H;intro w b7 H;by_cases ij:600<=n\/10<=d
  ·have e1:fe d v n=.error (2,n):=by
    rw[e0,if_pos (by rw[kH,if_pos ij];decide),kH,if_pos ij]
   rw[e1];by_cases hn6:600<=n
   all_goals
    refine wk ?_;refine(IQ H.data 2 n).use ?_;rintro r w⟨rfl,K⟩;(replace H:=H.az K);refine H.wg ?_;clear H;intro w H;exact⟨⟨rfl,by show(2:Int)≠0;decide⟩,H.sx⟩
  refine wk ?_;refine(Yh H.data hv hB).use ?_;rintro r w⟨rfl,K⟩;(replace H:=H.az K);have e1:kH v n d=fG v:=by rw[kH,if_neg ij]
  rw[e1]at e0;by_cases hz:fG v=0;rotate_left
  ·rw[if_pos hz]at e0;rw[e0];refine wk ?_;refine(IQ H.data (fG v) n).use ?_;rintro r w⟨rfl,K⟩;(replace H:=H.az K);refine H.wg ?_;clear H;intro w H;exact⟨⟨rfl,hz⟩,H.sx⟩
  rw[if_neg (λh=>h hz)]at e0;obtain⟨_,_,Je,_⟩:=nB hz;refine wk ?_;refine aY (S:=Nat×Nat) ah [0,1,2,3,7,8,18,24,31,32] (λk=>[(9,iv k.2),(33,iv k.1)]) (λk w'=>k.1<=v.parts.length/\nc (d+1) (v.parts.take k.1) (n+1)=.ok k.2/\k.2<=601/\Rel W V [.ax b7 [iv 0,iv 0] 31,.ax b3 (cr h) 27] V w') (λk _=>v.parts.length-k.1) (0,n+1) ?_;conv=>whnf
  refine⟨sB,⟨aa,rfl,aa,H.sx⟩,?_⟩;clear H;rintro⟨k,m⟩w⟨hk,po,hm,H⟩;dsimp only at hk po hm H;by_cases hlt:k<v.parts.length;rotate_left
  ·rw[bR aa]at po;refine H.wg ?_;clear H;intro w H;rw[e0,po];exact⟨rfl,H.sx⟩
  obtain⟨hp,x,hx,q0,q1,q2,q3,q4⟩:=hv.jE hlt;have hmem:=cj hlt;have Fh:nc (d+1) (v.parts.take (k+1)) (n+1)=fe (d+1) v.parts[k] m:=by
   rw[bZ hlt,Yj,po]
  have hall:∀e,fe (d+1) v.parts[k] m=.error e->nc (d+1) v.parts (n+1)=.error e:=by
   intro e he;rw[he]at Fh;unfold nc at Fh |-;conv=>lhs;rw[<-eN (k+1) v.parts,bT,GV,Fh]
  refine wk ?_;refine H.nA ?_;clear H;intro w tg H;refine H.wh ?_;clear H;intro w H;refine H.nA ?_;clear H;intro w uO H;refine wk ?_;refine(ih H.data (n:=m) (d:=d+1) (by have:=ar.vF hmem;omega) hx (hB.part _ hmem) aa aa).use ?_;rintro r w⟨hr,K⟩;(replace H:=H.az K);cases hq:fe (d+1) v.parts[k] m with
  | ok m' =>
   rw[hq]at hr;have hr:r=.tuple #[iv m',kg 0 0]:=hr;subst hr;have:=Ie hq;refine H.wg ?_;clear H;intro w H;exact⟨sB,(k+1,m'),sB,⟨aa,by rw[Fh,hq],aa,H.sx⟩,by dsimp only;omega⟩
  | error e =>
   rw[hq]at hr;obtain⟨rfl,hne⟩:=hr;have:=hall e hq;rw[e0,this];refine H.wg ?_;clear H;intro w H;refine dV 13 [] [0,1,2] H ?_;clear H;intro w H;refine H.wg ?_;clear H;intro w H;exact⟨⟨rfl,hne⟩,H.sx⟩
end
theorem Zj(k:Int)(s:bg)(a b:List ar):lC k s (a++b)=lC k s a++(b.zipIdx a.length).flatMap λp=>(if k=4 then cP (s.getD p.2 [])else[])++enc p.1:=by
 unfold lC;rw[List.zipIdx_append,bT];simp
theorem Zk(k:Int)(s:bg)(ps:List ar)(i:Nat):(lC k s (ps.take i)).length<=(lC k s ps).length:=by
 conv=>rhs;rw[<-eN i ps,Zj,aq]
 omega
theorem Zs{k:Int}{s:bg}{ps:List ar}(hi:i<ps.length):(lC k s (ps.take i)).length+(((if k=4 then cP (s.getD i [])else[]):ad).length+(enc ps[i]).length)<=(lC k s ps).length:=by
 have:=Zk k s ps (i+1);rw[bZ hi,Pe]at this;simp only[aq,bb]at this;rw[show min i ps.length=i by omega]at this;exact this
theorem Zy:∀(N:Nat) {V W:ae},Sub V W->∀ {h:VH} {v:ar} {n d m:Nat},SizeOf.sizeOf v<N->bV V h v->VB 1048576 v->fe d v n=.ok m->(enc v).length<=1099511627000 ->
  aC 267 [fb h] W λq w'=>∃r:Sl,q=r.v/\Rel W V [.row r 5 1 ((enc v).flatMap aE)] V w':=by
 intro N;induction N with
 | zero=>intro V W _ h v n d m hs;omega
 | succ N ih =>
  intro V W hV h v n d m hs hv hB hok hlen;have H:=Rel.start hV;have l3:=hv.kt;have hpl:=hB.parts;have hbl:=hB.bytes;have hns:=hv.names;have JW:=hB.num;have JO:=hB.kind;obtain⟨_,_,hr,hf,Je,hna,_,hpo⟩:=tn hok;have he:=B5 v;have hel:=congrArg List.length he;have e1:=hv.kind;have e2:=hv.num;obtain⟨hk,hn,bs,ss,pl⟩:=h;have l2:=hns.len;dsimp only at e1 e2 l2 l3 hns;subst e1 e2;have fN:=hv.bytes;have p1:=fj JO.1 JO.2;change aC 267 [.agg [iv v.kind,iv v.num,bs.v,ss.v,pl.v].toArray] W _;refine eV Tryz.func267 57 [0,1,2,3,4,5,10,11,18,32,33,34,35,41] ?_;refine wk ?_;refine H.nA ?_;clear H;intro w b1 H;refine wk ?_;refine(iQ (n:=v.kind) H.data JO).use ?_;rintro q w⟨r,rfl,K⟩;(replace H:=Rel.call H K);simp only[aL,aA]at H;by_cases k1:v.kind=1
  ·rw[if_pos k1]at he hel;simp only[aq]at hel;refine wk ?_;refine(iQ (n:=v.num) H.data JW).use ?_;rintro q w⟨r1,rfl,K⟩;(replace H:=Rel.call H K);simp only[aL,aA]at H;refine wk ?_;refine Rel.dD H (i:=0) rfl aa ?_;clear H;intro rn w H;refine wk ?_;exact⟨rn,rfl,by rw[he];exact H.sx⟩
  rw[if_neg k1]at he hel;by_cases k2:v.kind=2
  ·rw[if_pos k2]at he hel;simp only[aq]at hel;refine wk ?_;refine(zF H.data fN aa).use ?_;rintro q w⟨r1,rfl,K⟩;(replace H:=Rel.call H K);simp only[aL,aA]at H;refine wk ?_;refine Rel.dD H (i:=0) rfl aa ?_;clear H;intro rn w H;refine wk ?_;exact⟨rn,rfl,by rw[he];exact H.sx⟩
  rw[if_neg k2,<-bJ]at he;rw[if_neg k2]at hel;simp only[aq]at hel;refine wk ?_;rw[l3];refine(iQ (n:=v.parts.length) H.data (by constructor<;>omega)).use ?_;rintro q w⟨r1,rfl,K⟩;(replace H:=Rel.call H K);simp only[aL,aA]at H;refine wk ?_;refine Rel.dD H (i:=0) rfl aa ?_;clear H;intro r w H;refine wk ?_;refine aY (S:=Nat×Sl) ah [0,1,2,10,11,18,32,33] (λk=>[(3,k.2.v),(34,iv k.1)]) (λk w'=>k.1<=v.parts.length/\Rel W V [.row k.2 5 1 ((aM v.kind++aM v.parts.length++lC v.kind v.names (v.parts.take k.1)).flatMap aE),.ax b1 [iv v.kind,iv v.num,bs.v,ss.v,pl.v] 27] V w') (λk _=>v.parts.length-k.1) (0,r) ?_;conv=>whnf
  refine⟨sB,⟨aa,by simp only[List.take_zero,Zl,cm];exact H⟩,?_⟩;clear H;rintro⟨k,r⟩w⟨hk,H⟩;dsimp only at hk H;by_cases hlt:k<v.parts.length;rotate_left
  ·rw[bR aa,<-he]at H;refine wk ?_;exact⟨r,rfl,H.sx⟩
  obtain⟨hp,x,hx,q0,q1,q2,q3,q4⟩:=hv.jE hlt;have hmem:=cj hlt;have hle:=Zs (k:=v.kind) (s:=v.names) hlt;obtain⟨a',m',dy⟩:=rO hpo _ hmem;have gg:=Pe v.kind v.names (v.parts.take k) v.parts[k];rw[<-bZ hlt,bb,show min k v.parts.length=k by omega]at gg;refine wk ?_;refine H.nA ?_;clear H;intro w b5 H;by_cases k4:v.kind=4
  ·rw[if_pos k4]at gg hle;unfold ig at hf;have lG:k<v.names.length:=aa;obtain⟨tO,qJ⟩:=hns.rW (g:=str) (λ_=>rfl) lG;have hnl:=Dk (hna _ (cj lG));have tL:v.names.getD k []=v.names[k]:=by simp[List.getD,lG]
   rw[tL]at gg hle;refine H.wg ?_;clear H;intro w H;refine Rel.Od Tryz.underlying9 Tryz.underlying22 Tryz.underlying5 H v.names[k] ?_;clear H;intro V1 s1 w he hV1 hs1 H;refine wk ?_;refine(zF H.data hs1 aa).use ?_;rintro q w⟨r1,rfl,K⟩;(replace H:=Rel.call H K);simp only[aL,aA]at H;replace H:=H.back;refine wk ?_;refine Rel.dD H (i:=1) rfl (by simp only[aq];omega) ?_;clear H;intro r w H;refine wk ?_;refine(ih H.data (by have:=ar.vF hmem;omega) hx (hB.part _ hmem) dy aa).use ?_;rintro q w⟨r1,rfl,K⟩;(replace H:=Rel.call H K);simp only[aL,aA]at H;refine wk ?_;refine Rel.dD H (i:=1) rfl (by simp only[aq];omega) ?_;clear H;intro r w H;refine wk ?_;refine⟨sB,(k+1,r),sB,⟨aa,?_⟩,by dsimp only;omega⟩;dsimp only;rw[gg];simp only[bJ]at H |-;exact H.sx
  ·rw[if_neg k4]at gg hle;refine H.wg ?_;clear H;intro w H;refine(ih H.data (by have:=ar.vF hmem;omega) hx (hB.part _ hmem) dy aa).use ?_;rintro q w⟨r1,rfl,K⟩;(replace H:=Rel.call H K);simp only[aL,aA]at H;refine wk ?_;refine Rel.dD H (i:=1) rfl (by simp only[aq];omega) ?_;clear H;intro r w H;refine wk ?_;refine⟨sB,(k+1,r),sB,⟨aa,?_⟩,by dsimp only;omega⟩;dsimp only;rw[gg];simp only[bJ,aA]at H |-;exact H.sx
theorem aef{B:Nat}(v:ar):∀ {d:Nat},VB B v->∀p∈pre d v,VB B p.1:=by
 induction v using(measure (λv:ar=>SizeOf.sizeOf v)).wf.induction with
 | _ v ih =>
  intro d hB p hp;rw[Dw]at hp;rcases bB.1 hp with rfl|hp
  ·exact hB
  ·split at hp
   ·simp at hp
   ·obtain⟨q,hq,hp⟩:=List.mem_flatMap.1 hp;have hq:=AW hq;exact ih q (ar.vF hq) (hB.part q hq) p hp
theorem ac8{l:bg}(h:∀s∈l,gx s=true):(l.map λs=>1+s.length).sum<=l.length*33:=by
 induction l with
 | nil=>simp
 | cons s l ih =>
  have h1:=Dk (h s ai);have h2:=ih λx hx=>h x (by simp[hx]);simp only[fq,pR,av];omega
theorem ade{v:ar}(hB:VB 1048576 v)(h:fG v=0):AB v<=1100000:=by
 obtain⟨h1,h2,h3,h4,_⟩:=nB h;have hn:=hB.num;have hb:=hB.bytes;unfold ig at h2;have a1:=fj hn.1 hn.2;have a2:=fj (n:=v.bytes.length) aa aa;have a3:=fj (n:=v.parts.length) aa aa;have a4:=ac8 h4;unfold AB;split
 ·omega
 ·split
  ·rw[cP,aq];omega
  ·have:v.names.length<=600:=aa;have:=iD 33 this;omega
theorem ag5{l:List (ar×Nat)}(h:∀p∈l,AB p.1<=1100000):nN l<=l.length*1100000:=by
 induction l with
 | nil=>simp[nN]
 | cons p l ih =>
  have h1:=h p ai;have h2:=ih λq hq=>h q (by simp[hq]);simp only[nN,fq,pR,av]at h2 |-;omega
theorem Zu{v:ar}{d:Nat}(hB:VB 1048576 v)(h:fe d v n=.ok m):(enc v).length<=1000000000:=by
 rw[Zq v h];obtain⟨h1,h2⟩:=GW _ _ _ h;have h3:=Ie h;have:=ag5 (l:=pre d v) λp hp=>by
  obtain⟨i,hi,rfl⟩:=List.getElem_of_mem hp;refine ade (aef v hB _ (cj hi)) ?_;have:=h2 i _ _ (a8 hi);unfold kH at this;split at this
  ·cases this
  ·exact this
 have h4:(pre d v).length<=600:=aa;have:=iD 1100000 h4;omega
theorem oQ{v:ar}(h:(bI v).1=0):bI v=(0,0):=by
 unfold bI at h |-;split at h
 ·rename_i e he;exact absurd h (DQ he)
 ·split at h
  ·cases h
  ·rename_i h1;rw[if_neg h1]
section
variable{V W:ae}
theorem IK(hV:Sub V W){h:VH}{v:ar}(hv:bV V h v)(hB:VB 1048576 v):aC 199 [fb h] W λq w'=>∃(V':ae) (r:Sl),Sub V V'/\Rel W V [] V' w'/\q=.tuple #[r.v,kg (bI v).1 (bI v).2]/\((bI v).1≠0/\r=⟨none,0,0⟩\/(bI v).1=0/\ay V' r (enc v)):=by
 have H:=Rel.start hV;refine eV Tryz.func199 24 [0,1,2,3,5,6,14,20] ?_;refine wk ?_;refine H.nA ?_;clear H;intro w b1 H;refine wk ?_;refine H.nA ?_;clear H;intro w b3 H;refine wk ?_;refine(Yi (SizeOf.sizeOf v+1) (n:=0) (d:=0) H.data (yE _) hv (hB.mono aa) aa aa).use ?_;rintro q w⟨hq,K⟩;(replace H:=H.az K);cases hc:fe 0 v 0 with
 | error e =>
  rw[hc]at hq;obtain⟨rfl,hne⟩:=hq;have bP:bI v=e:=by rw[bI,hc]
  rw[bP];refine wk ?_;refine H.nA ?_;clear H;intro w b5 H;refine H.wg ?_;clear H;intro w H;refine dV 3 [] [0,1,2] H ?_;clear H;intro w H;refine H.wg ?_;clear H;intro w H;exact⟨V,⟨none,0,0⟩,Sub.refl _,H.sx,rfl,.inl ⟨hne,rfl⟩⟩
 | ok m =>
  rw[hc]at hq;have hq:q=.tuple #[iv m,kg 0 0]:=hq;subst hq;have hsm:=Zu hB hc;refine wk ?_;refine H.nA ?_;clear H;intro w b5 H;refine H.wg ?_;clear H;intro w H;refine(Zy (SizeOf.sizeOf v+1) H.data (yE _) hv hB hc aa).use ?_;rintro q w⟨r,rfl,K⟩;(replace H:=Rel.call H K);simp only[aL,aA]at H;obtain⟨V2,hV2,H,hr⟩:=Rel.aT H (λ_=>rfl) ag;have hrl:=hr.len;by_cases h4:4000<(enc v).length
  ·have bP:bI v=(14, -1):=by rw[bI,hc];simp only;rw[if_pos h4]
   rw[bP];refine wk ?_;refine(IQ H.data 14 (-1)).use ?_;rintro q w⟨rfl,K⟩;(replace H:=H.az K);refine H.wg ?_;clear H;intro w H;exact⟨V2,⟨none,0,0⟩,hV2,H.sx,rfl,.inl ⟨by show(14:Int)≠0;decide,rfl⟩⟩
  ·have bP:bI v=(0,0):=by rw[bI,hc];simp only;rw[if_neg h4]
   rw[bP];refine H.wg ?_;clear H;intro w H;exact⟨V2,r,hV2,H.sx,rfl,.inr ⟨rfl,hr⟩⟩
theorem qe(hV:Sub V W){h:VH}{v:ar}(hv:bV V h v)(hB:VB 1048576 v):aC 124 [fb h] W λq w'=>q=kg (bI v).1 (bI v).2/\Rel W V [] V w':=by
 have H:=Rel.start hV;refine eV Tryz.func124 11 [0,1,2,4] ?_;refine wk ?_;refine H.nA ?_;clear H;intro w b1 H;refine wk ?_;refine H.nA ?_;clear H;intro w b2 H;refine wk ?_;refine(IK H.data hv hB).use ?_;rintro q w⟨V2,r,hV2,K,rfl,_⟩;(replace H:=H.az K);refine wk ?_;refine H.nA ?_;clear H;intro w b4 H;refine H.wg ?_;clear H;intro _ w H;exact Rel.back H.sx
end
noncomputable instance:DecidableEq ar:=λa b=>Classical.propDecidable (a=b)
theorem ar.ext{a b:ar}(h1:a.kind=b.kind)(h2:a.num=b.num)(h3:a.bytes=b.bytes)(h4:a.names=b.names)(h5:a.parts=b.parts):a=b:=by
 cases a;cases b;simp only[ar.kind,ar.num,ar.bytes,ar.names,ar.parts]at h1 h2 h3 h4 h5;subst h1 h2 h3 h4 h5;rfl
abbrev wc:ad:=[114,97,116,101]
abbrev v7:ad:=[99,104,97,110,110,101,108,115]
abbrev we:ad:=[115,97,109,112,108,101,115]
abbrev yt(n:Int):ar:=.mk 1 n [] [] []
abbrev BO(b:ad):ar:=.mk 2 0 b [] []
abbrev p6(rate ch:Int)(b:ad):ar:=.mk 4 0 [] [wc,v7,we] [yt rate,yt ch,BO b]
def kC(l:List Int):ad:=l.flatMap λv=>gF true (dz true v)
theorem LS{f:Nat->List α}{g:Nat->List α}(h:∀i,i<n->f i=g i):(List.range n).flatMap f=(List.range n).flatMap g:=by
 rw[Tk,Tk];congr 1;exact kY λi hi=>h i (List.mem_range.1 hi)
theorem TU{β:Type}[Inhabited α]{f:α->List β}(l:List α):(List.range l.length).flatMap (λi=>f (l[i]?.getD default))=l.flatMap f:=by
 induction l with
 | nil=>rfl
 | cons x l ih =>
  rw[av,List.range_succ_eq_map,bz,vN,bz];congr 1
theorem agG(l:List Int)(ch:Nat):lj l 1 ch=kC l:=by
 unfold lj kC;rw[<-TU (f:=λv:Int=>gF true (dz true v)) l];refine LS λi hi=>?_;unfold hY;rw[if_neg (by simp[dT])];simp only[eu,a8 hi,gA,k6];rfl
theorem G3(l:List Int):(kC l).length=2*l.length:=by
 unfold kC;induction l with
 | nil=>rfl
 | cons x l ih=>rw[bz,aq,ih];simp[gF];omega
def wx(cs:List bO):Option (ad×ad):=match cs.filter cV with
 | [f,d]=>if f.1=70/\d.1=68 then some (f.2,d.2)else none
 | _=>none
structure uL where
 rate:Nat
 ch:Nat
 coding:Nat
 fK:List Int
 notes:List cB
def xg(f d:ad):Prop:=f.length=4/\(1<=at8 f 2/\at8 f 2<=2)/\at8 f 3<4/\d.length%((at8 f 3%2+1)*at8 f 2)=0
instance(f d:ad):Decidable (xg f d):=by unfold xg;infer_instance
def G2(f d:ad)(ns:List cB):uL:=⟨256*at8 f 0+at8 f 1,at8 f 2,at8 f 3,e9 d (at8 f 3) (at8 f 2),ns⟩
def sS(cs:List bO):Option uL:=match wx cs with
 | none=>none
 | some (f,d)=>if xg f d then some (G2 f d (eL 0 cs))else none
def nL(b:ad):Option uL:=match oI b with
 | none=>none
 | some cs=>sS cs
def yR(x:uL):Option (ar×ad):=if(bI (p6 x.rate x.ch (kC x.fK))).1≠0 then none else some (p6 x.rate x.ch (kC x.fK),ln x.coding x.notes)
def fU(b:ad):Option (ar×ad):=match nL b with
 | none=>none
 | some x=>yR x
theorem ac1{r x:Nat}(hr:r<full)(hx:x<full):((r+x)%full+full-x)%full=r:=by
 by_cases h:r+x<full
 ·have e:(r+x)%full=r+x:=ug h;rw[e,show r+x+full-x=r+full by omega,To,ug hr]
 ·have e:(r+x)%full=r+x-full:=by rw[Nat.mod_eq_sub_mod aa,ug aa]
  rw[e,show r+x-full+full-x=r by omega,ug hr]
theorem ac0{r x:Nat}(hr:r<full)(hx:x<full):((r+full-x)%full+x)%full=r:=by
 by_cases h:x<=r
 ·have e:(r+full-x)%full=r-x:=by rw[show r+full-x=(r-x)+full by omega,To,ug aa]
  rw[e,show r-x+x=r by omega,ug hr]
 ·have e:(r+full-x)%full=r+full-x:=ug aa;rw[e,show r+full-x+x=r+full by omega,To,ug hr]
theorem ah2(w:Bool){u:Nat}(h:u<dw w):dz w (eH w u)=u:=by
 unfold dz eH;unfold dw at h;cases w with
 | true =>
  simp only[if_true]at h |-;split<;>omega
 | false =>
  simp only[vR,if_false]at h |-;omega
theorem Hk{r:Nat}(h:l[i]?=some r):(eB df ch full l)[i]?=some (if df=true/\ch<=i then(r+(eB df ch full (l.take i))[i-ch]?.getD 0)%full else r):=by
 have hlt:=(cW.1 h).1;have key:∀(b acc:au),∃x,b.foldl (λacc r=>acc++[if df=true/\ch<=acc.length then(r+acc[acc.length-ch]?.getD 0)%full else r]) acc=acc++x:=by
  intro b;induction b with
  | nil=>intro acc;exact⟨[],ai⟩
  | cons y b ih =>
   intro acc;obtain⟨x,hx⟩:=ih (acc++[if df=true/\ch<=acc.length then(y+acc[acc.length-ch]?.getD 0)%full else y]);exact⟨_,by rw[List.foldl_cons,hx,bJ]⟩
 have pre:∀(a b:au),∃x,eB df ch full (a++b)=eB df ch full a++x:=λa b=>by
  obtain⟨x,hx⟩:=key b (eB df ch full a);exact⟨x,by rw[<-hx];unfold eB;rw[yB]⟩
 obtain⟨x,hx⟩:=pre (l.take (i+1)) (l.drop (i+1));rw[eN]at hx;have hl:(eB df ch full (l.take i)).length=i:=by rw[yZ,bb];omega
 rw[hx,VE h,bJ,DA aa,hl];simp
theorem ahY{j:Nat}(hj:j<i)(hi:i<=l.length):(eB df ch full (l.take i))[j]?=(eB df ch full l)[j]?:=by
 have h1:(l.take i)[j]?=some l[j]:=by rw[AU,if_pos hj,a8]
 rw[Hk h1,Hk (a8 aa:l[j]?=some l[j]),Tm,vO aa]
theorem ahu(h:∀r∈l,r<full)(hf:0<full)(hch:1<=ch){i:Nat}(hi:i<l.length):hY df ch full (eB df ch full l) i=l[i]:=by
 have h1:=Hk (df:=df) (ch:=ch) (full:=full) (a8 hi);have hr:=h _ (cj hi);unfold hY;by_cases hd:df=true/\ch<=i
 ·rw[if_pos hd,h1,k6,if_pos hd,ahY aa aa];have hb:=VD (df:=df) (ch:=ch) h hf (i-ch);generalize (eB df ch full l)[i-ch]?.getD 0=x at hb;generalize l[i]=r at hr;exact ac1 hr hb
 ·rw[if_neg hd,h1,k6,if_neg hd]
theorem VF{df:Bool}{ch full:Nat}(hf:0<full)(hch:1<=ch)(U:au)(h:∀i:Nat,U[i]?.getD 0<full):∀k,k<=U.length->eB df ch full ((List.range k).map (hY df ch full U))=U.take k
 | 0,_=>rfl
 | k+1,hk=>by
  have ih:=VF (df:=df) (ch:=ch) hf hch U h k aa;rw[sK,eZ,List.map_singleton,Hm,ih,bZ aa];congr 1;have hl:(U.take k).length=k:=by simp;omega
  rw[hl];have e0:U[k]?.getD 0=U[k]:=by rw[a8 aa];rfl
  have b0:=h k;rw[e0]at b0;by_cases hd:df=true/\ch<=k
  ·rw[if_pos hd,AU,if_pos aa];unfold hY;rw[if_pos hd,e0];have b1:=h (k-ch);generalize U[k-ch]?.getD 0=x at b1;generalize U[k]=r at b0;exact congrArg (λz=>[z]) (ac0 b0 b1)
  ·rw[if_neg hd];unfold hY;rw[if_neg hd,e0]
theorem ZR(f:Nat->ad)(m n:Nat)(h:∀i,i<n->(f i).length=m):((List.range n).flatMap f).length=n*m:=by
 induction n with
 | zero=>simp
 | succ n ih=>rw[sK,bT,aq,ih (λi hi=>h i aa)];simp[h n aa,Nat.succ_mul]
theorem aeY(w:Bool)(d:ad)(hev:w=true->d.length%2=0):(List.range (fI w d).length).flatMap (λi=>gF w ((fI w d)[i]?.getD 0))=d:=by
 cases w with
 | false =>
  have e:∀i,i<d.length->gF false ((fI false d)[i]?.getD 0)=[d[i]?.getD 0]:=λi hi=>by
   rw[GC hi];simp[gF,at8]
  rw[sO,if_neg ai,LS e];exact(TU (f:=λx:UInt8=>[x]) d).trans ai
 | true =>
  have hl:=hev rfl;rw[sO,if_pos rfl];have key:∀n,2*n<=d.length->(List.range n).flatMap (λi=>gF true ((fI true d)[i]?.getD 0))=d.take (2*n):=by
   intro n;induction n with
   | zero=>intro _;rfl
   | succ n ih =>
    intro hn;rw[sK,bT,ih aa,show 2*(n+1)=2*n+1+1 by omega,bZ aa,bZ aa,bJ];congr 1;rw[bz,gB,cm,DK aa,k6];simp only[gF,if_true,rL (show 2*n<d.length by omega),rL (show 2*n+1<d.length by omega)];have a:=d[2*n].toNat_lt;have b:=d[2*n+1].toNat_lt;rw[show(d[2*n].toNat+256*d[2*n+1].toNat)%256=d[2*n].toNat by omega,show(d[2*n].toNat+256*d[2*n+1].toNat)/256=d[2*n+1].toNat by omega];simp
  rw[key _ aa,bR aa]
theorem Cc(w:Bool):0<dw w:=by unfold dw;split<;>omega
theorem agH(hch:1<=ch)(hev:aV coding=true->d.length%2=0):lj (e9 d coding ch) coding ch=d:=by
 have hr:=LV (aV coding) d;have hU:(e9 d coding ch).map (dz (aV coding))=eB (dT coding) ch (dw (aV coding)) (fI (aV coding) d):=by
  unfold e9;rw[kz];conv=>rhs;rw[<-pT (eB (dT coding) ch (dw (aV coding)) (fI (aV coding) d))]
  refine kY λu hu=>ah2 _ ?_;exact Hl (Cc _) _ _ rfl hr u hu
 have hl:(e9 d coding ch).length=(fI (aV coding) d).length:=by rw[e9,bu,yZ]
 unfold lj;rw[hU,hl];conv=>rhs;rw[<-aeY (aV coding) d hev]
 refine LS λi hi=>?_;rw[ahu hr (Cc _) hch hi,a8 hi,k6]
def fits(w:Bool)(x:Int):Prop := -32768<=x/\x<=32767/\(w=false->x%256=0)
theorem aid{w:Bool}{x:Int}(h:fits w x):eH w (dz w x)=x:=by
 obtain⟨h1,h2,h3⟩:=h;unfold dz eH;cases w with
 | true =>
  simp only[if_true];split<;>omega
 | false =>
  have:=h3 rfl;simp only[vR,if_false];omega
theorem aeX(w:Bool)(R:au)(h:∀r∈R,r<dw w):fI w (R.flatMap (gF w))=R:=by
 cases w with
 | false =>
  have e:R.flatMap (gF false)=R.map UInt8.ofNat:=by
   induction R with
   | nil=>rfl
   | cons r R ih=>rw[bz,ih (λx hx=>h x (by simp[hx]))];simp[gF]
  refine vP λi=>?_;by_cases hi:i<R.length
  ·rw[GC (by rw[e];simpa using hi),e];have hb:R[i]<256:=h _ (cj hi);simp only[at8,eu,a8 hi,gA,k6];rw[cH hb]
  ·rw[jk (by rw[sO,if_neg ai,e];simp;omega),jk aa]
 | true =>
  have hlen:(R.flatMap (gF true)).length=2*R.length:=by
   clear h;induction R with
   | nil=>rfl
   | cons r R ih=>rw[bz,aq,ih];simp[gF];omega
  have hat:∀(R:au) (i:Nat) (hi:i<R.length),R[i]<65536->at8 (R.flatMap (gF true)) (2*i)=R[i]%256/\at8 (R.flatMap (gF true)) (2*i+1)=R[i]/256:=by
   intro R;induction R with
   | nil=>intro i hi;simp at hi
   | cons r R ih =>
    intro i hi hb;have e:(r::R).flatMap (gF true)=UInt8.ofNat (r%256)::UInt8.ofNat (r/256)::R.flatMap (gF true):=rfl;cases i with
    | zero =>
     simp only[List.getElem_cons_zero]at hb |-;rw[e];simp only[at8,Nat.mul_zero,AZ,k6,dU,vJ];rw[cH aa,cH aa];exact⟨rfl,rfl⟩
    | succ i =>
     have:=ih i (by simpa using hi) (by simpa using hb);rw[e];simp only[at8,show 2*(i+1)=2*i+1+1 by omega,vJ,List.getElem_cons_succ]at this |-;exact this
  refine vP λi=>?_;by_cases hi:i<R.length
  ·rw[DK aa,a8 hi];have hb:R[i]<65536:=h _ (cj hi);obtain⟨a,b⟩:=hat R i hi hb;rw[a,b];congr 1;omega
  ·rw[jk (by rw[sO,if_pos rfl];omega),jk aa]
theorem agP{l:List Int}(hch:1<=ch)(h:∀x∈l,fits (aV coding) x):e9 (lj l coding ch) coding ch=l:=by
 have hU:=D4 (aV coding) l;obtain⟨U,E7⟩:∃U,U=l.map (dz (aV coding)):=⟨_,rfl⟩
 have Jk:U.length=l.length:=by rw[E7,bu]
 have e:lj l coding ch=((List.range U.length).map (hY (dT coding) ch (dw (aV coding)) U)).flatMap (gF (aV coding)):=by
  unfold lj;rw[vN,Jk,E7]
 rw[<-E7]at hU;unfold e9;rw[e,aeX _ _ (by
  intro r hr;obtain⟨i,_,rfl⟩:=cG.1 hr;exact aht (Cc _) hU i),VF (Cc _) hch U hU _ (aK _),fR,E7,kz]
 conv=>rhs;rw[<-pT l]
 exact kY λx hx=>aid (h x hx)
theorem Mv :∀x∈e9 d coding ch, -32768<=x/\x<=32767:=by
 intro x hx;obtain⟨u,hu,rfl⟩:=cG.1 hx;have hb:=Hl (Cc (aV coding)) _ _ rfl (LV (aV coding) d) u hu;unfold eH;unfold dw at hb;generalize aV coding=w at hb |-;cases w with
 | true=>simp only[if_true]at hb |-;split<;>omega
 | false=>simp only[vR,if_false]at hb |-;omega
def pj(rate ch coding:Nat):ad:=[UInt8.ofNat (rate/256),UInt8.ofNat (rate%256),UInt8.ofNat ch,UInt8.ofNat coding]
def j6(rate ch coding:Nat)(l:List Int):List bO:=[(70,pj rate ch coding),(68,lj l coding ch)]
def lp(rate ch coding:Nat)(l:List Int)(ns:List cB):ad:=[83,78,68,49]++((eQ (ns.length+2) 0 ns (j6 rate ch coding l)).flatMap dL++[0])
structure zp(v r c s:ar):Prop where
 kind:v.kind=4
 names:v.names=[wc,v7,we]
 rk:r.kind=1
 ck:c.kind=1
 sk:s.kind=2
 r0:0<=r.num/\r.num<=65535
 c0:1<=c.num/\c.num<=2
 s0:s.bytes.length%(2*c.num.toNat)=0
instance(v r c s:ar):Decidable (zp v r c s):=decidable_of_iff (v.kind=4/\v.names=[wc,v7,we]/\r.kind=1/\c.kind=1/\s.kind=2/\(0<=r.num/\r.num<=65535)/\(1<=c.num/\c.num<=2)/\s.bytes.length%(2*c.num.toNat)=0) ⟨λ⟨a,b,c,d,e,f,g,h⟩=>⟨a,b,c,d,e,f,g,h⟩,λ⟨a,b,c,d,e,f,g,h⟩=>⟨a,b,c,d,e,f,g,h⟩⟩
def lX(v:ar):Option (Nat×Nat×ad):=match v.parts with
 | [r,c,s]=>if zp v r c s then some (r.num.toNat,c.num.toNat,s.bytes)else none
 | _=>none
noncomputable def nM(v:ar)(b:ad):fx:=match lX v,lk b with
 | some (rate,ch,s),some (coding,ns)=>if(lp rate ch coding (e9 s 1 ch) ns).length<=1000/\fU (lp rate ch coding (e9 s 1 ch) ns)=some (v,b)then some (lp rate ch coding (e9 s 1 ch) ns)else none
 | _,_=>none
theorem IU{cs:List bO}(h:wx cs=some (f,d)):cs.filter cV=[(70,f),(68,d)]:=by
 unfold wx at h;split at h
 ·rename_i x y hf;split at h
  ·rename_i hk;cases h;obtain⟨x1,x2⟩:=x;obtain⟨y1,y2⟩:=y;obtain⟨h1,h2⟩:=hk;dsimp only at h1 h2;subst h1 h2;exact hf
  ·cases h
 ·cases h
theorem SV{cs:List bO}(h:cs.filter cV=[(70,f),(68,d)]):wx cs=some (f,d):=by
 unfold wx;rw[h];simp
structure Xb(b:ad)(cs:List bO)(f d:ad)(x:uL):Prop where
 kI:oI b=some cs
 bytes:b=[83,78,68,49]++(cs.flatMap dL++[0])
 ok:∀c∈cs,wX c
 two:cs.filter cV=[(70,f),(68,d)]
 EX:xg f d
 eq:x=G2 f d (eL 0 cs)
theorem Mt{x:uL}(h:nL b=some x):∃cs f d,Xb b cs f d x:=by
 unfold nL at h;split at h
 ·cases h
 ·rename_i cs hc;unfold sS at h;split at h
  ·cases h
  ·rename_i f d hp;split at h
   ·rename_i hk;cases h;refine⟨cs,f,d,hc,?_,?_,IU hp,hk,rfl⟩
    all_goals
     unfold oI at hc;split at hc
     ·rename_i h4;obtain⟨h1,h2⟩:=Ez _ _ _ (aK _) hc
      first
       | exact h2
       | (conv=>lhs;rw[<-eN 4 b,h4,h1])
     ·cases hc
   ·cases h
theorem Yn{cs:List bO}(h:∀c∈cs,wX c):oI ([83,78,68,49]++(cs.flatMap dL++[0]))=some cs:=by
 unfold oI;have e:([83,78,68,49]++(cs.flatMap dL++[0])).take 4=[83,78,68,49]:=ai;rw[if_pos e];exact NY cs h
theorem Z4(h1:rate<=65535)(h2:ch<256)(h3:coding<256):at8 (pj rate ch coding) 0=rate/256/\at8 (pj rate ch coding) 1=rate%256/\at8 (pj rate ch coding) 2=ch/\at8 (pj rate ch coding) 3=coding:=by
 simp only[at8,pj,AZ,vJ,k6];rw[cH aa,cH aa,cH aa,cH aa];exact⟨rfl,rfl,rfl,rfl⟩
theorem Z5(h:f.length=4):pj (256*at8 f 0+at8 f 1) (at8 f 2) (at8 f 3)=f:=by
 match f,h with
 | [a,b,c,d],_ =>
  have ha:=a.toNat_lt;have hb:=b.toNat_lt;simp only[pj,at8,AZ,vJ,k6];rw[show(256*a.toNat+b.toNat)/256=a.toNat by omega,show(256*a.toNat+b.toNat)%256=b.toNat by omega];simp
theorem FV{cs:List bO}{x y:bO}(h:cs.filter cV=[x,y]):(eL 0 cs).length+2=cs.length:=by
 have:=KR cs 0;rw[h]at this;exact this
theorem adi{cs:List bO}{x y:bO}(h:cs.filter cV=[x,y])(hok:∀c∈cs,wX c):gj (eL 0 cs).length (-1) (eL 0 cs)=true:=by
 have hc:=FV h;refine Ss (KQ cs 0) λn hn=>?_;obtain⟨h1,h2,h3,h4⟩:=AE cs 0 n hn;obtain⟨h5,h6,_⟩:=hok _ h3;exact⟨aa,aa,h4,h5,h6⟩
theorem PH{l:List bO}{c:bO}(h:c∈l):3+c.2.length<=(l.flatMap dL).length:=by
 obtain⟨s,t,rfl⟩:=A8 h;simp only[bT,bz,aq,Lg];omega
theorem IY(l:List bO):3*l.length<=(l.flatMap dL).length:=by
 induction l with
 | nil=>simp
 | cons c l ih=>simp only[bz,aq,Lg,av];omega
theorem G4{v:ar}(h:fU b=some (v,r)):∃x,nL b=some x/\(bI v).1=0/\v=p6 x.rate x.ch (kC x.fK)/\r=ln x.coding x.notes:=by
 unfold fU at h;split at h
 ·cases h
 ·rename_i x hx;unfold yR at h;split at h
  ·cases h
  ·rename_i hv;cases h;exact⟨x,hx,Decidable.not_not.1 hv,rfl,rfl⟩
theorem Ps{s c:Nat}(h:n%((s%2+1)*c)=0)(hs:s%2=1):n%2=0:=by
 rw[hs]at h;obtain⟨k,hk⟩:=Tp h;rw[hk,show(1+1)*c*k=2*(c*k)by rw[AX]];omega
theorem UK{v:ar}(hl:b.length<=1000)(h:fU b=some (v,r)):∃x,nL b=some x/\lk r=some (x.coding,x.notes)/\x.coding<4:=by
 obtain⟨x,hx,_,_,rfl⟩:=G4 h;obtain⟨cs,f,d,S⟩:=Mt hx;refine⟨x,hx,?_,?_⟩
 ·have kj:=FV S.two;have hb:=congrArg List.length S.bytes;have cJ:=IY cs;simp only[aq,av,aI]at hb;rw[S.eq];refine agJ S.EX.2.2.1 (by show(eL 0 cs).length<=1000;omega) (adi S.two S.ok) λn hn=>?_;have:=(S.ok _ (AE cs 0 n hn).2.2.1).2.2;omega
 ·rw[S.eq];exact S.EX.2.2.1
theorem agR{l:List Int}(hch:1<=ch)(h:∀x∈l, -32768<=x/\x<=32767):e9 (kC l) 1 ch=l:=by
 rw[<-agG l ch];exact agP hch λx hx=>⟨(h x hx).1,(h x hx).2,λh=>by cases h⟩
theorem agN(h1:rate<=65535)(h2:1<=ch/\ch<=2)(h3:b.length%(2*ch)=0):lX (p6 rate ch b)=some (rate,ch,b):=by
 unfold lX;show(if zp (p6 rate ch b) (yt rate) (yt ch) (BO b)then _ else _)=_;rw[if_pos]
 ·simp
 ·exact⟨rfl,rfl,rfl,rfl,rfl,by show(0:Int)<=rate/\(rate:Int)<=65535;omega,by show(1:Int)<=ch/\(ch:Int)<=2;omega,by show b.length%(2*(ch:Int).toNat)=0;simpa using h3⟩
theorem agT{v:ar}(hl:b.length<=1000)(h:fU b=some (v,r)):nM v r=some b:=by
 obtain⟨x,hx,bF,hc4⟩:=UK hl h;obtain⟨x',C2,hv0,hv,hr⟩:=G4 h;rw[hx]at C2;cases C2;obtain⟨cs,f,d,S⟩:=Mt hx;obtain⟨g1,g2,g3,g4⟩:=S.EX;have b0:at8 f 0<256:=dY _;have b1:at8 f 1<256:=dY _;have hsm:x.fK=e9 d (at8 f 3) (at8 f 2):=by rw[S.eq];rfl
 have hch:x.ch=at8 f 2:=by rw[S.eq];rfl
 have hco:x.coding=at8 f 3:=by rw[S.eq];rfl
 have hra:x.rate=256*at8 f 0+at8 f 1:=by rw[S.eq];rfl
 have hno:x.notes=eL 0 cs:=by rw[S.eq];rfl
 have hev:aV (at8 f 3)=true->d.length%2=0:=λhw=>Ps g4 (by simpa [aV]using hw);have hdiv:(kC x.fK).length%(2*x.ch)=0:=by
  rw[G3,hch,hsm,e9,bu,yZ,sO];obtain⟨k,hk⟩:=Tp g4;rcases Nat.mod_two_eq_zero_or_one (at8 f 3)with h0|h0
  ·rw[h0,dU,Nat.one_mul]at hk;rw[if_neg (by simp[aV,h0]),hk,<-AX];exact Tq ..
  ·rw[h0]at hk;rw[if_pos (by simp[aV,h0]),hk,AX,Nat.mul_div_cancel_left _ aa,<-AX];exact Tq ..
 have hsh:lX v=some (x.rate,x.ch,kC x.fK):=by
  rw[hv];exact agN aa aa hdiv
 have hw:lp x.rate x.ch x.coding (e9 (kC x.fK) 1 x.ch) x.notes=b:=by
  rw[agR aa (by rw[hsm];exact Mv)];unfold lp j6;rw[hra,hch,hco,hsm,hno,Z5 g1,agH aa hev,FV S.two];conv=>rhs;rw[S.bytes]
  have:=Wk cs 0;rw[S.two]at this;rw[this]
 unfold nM;rw[hsh,bF];simp only;rw[hw,if_pos ⟨hl,h⟩]
theorem agS{l:List Int}{ns:List cB}(h1:rate<=65535)(h2:1<=ch/\ch<=2)(h3:coding<4)(h4:gj ns.length (-1) ns=true)(h5:∀c∈eQ (ns.length+2) 0 ns (j6 rate ch coding l),c.2.length<=65535)
  (h6:(lj l coding ch).length%((coding%2+1)*ch)=0):nL (lp rate ch coding l ns)=some ⟨rate,ch,coding,e9 (lj l coding ch) coding ch,ns⟩:=by
 obtain⟨p1,p2⟩:=FU h4;have ho:∀c∈j6 rate ch coding l,cV c=true:=by intro c hc;simp only[j6,bB,pQ,or_false]at hc;rcases hc with rfl|rfl<;>rfl
 have hb:=D8 (ns.length+2) 0 ns (j6 rate ch coding l) rfl p1 (λm hm=>by
  obtain⟨a1,a2,a3,_⟩:=p2 m hm;exact⟨aa,aa,a3⟩) ho
 have hm:=aiq (ns.length+2) 0 ns (j6 rate ch coding l) rfl p1 (λm hm=>by
  obtain⟨a1,a2,a3,_⟩:=p2 m hm;exact⟨aa,aa,a3⟩) ho
 have abq:∀c∈j6 rate ch coding l,65<=c.1.toNat/\c.1.toNat<=90:=by
  intro c hc;simp only[j6,bB,pQ,or_false]at hc;rcases hc with rfl|rfl
  ·show 65<=(70:UInt8).toNat/\(70:UInt8).toNat<=90;decide
  ·show 65<=(68:UInt8).toNat/\(68:UInt8).toNat<=90;decide
 have hok:∀c∈eQ (ns.length+2) 0 ns (j6 rate ch coding l),wX c:=by
  intro c hc;refine⟨?_,?_,h5 c hc⟩
  all_goals
   rcases hm c hc with h|h
   ·obtain⟨n,hn,rfl⟩:=cG.1 h;obtain⟨_,_,_,q1,q2⟩:=p2 n hn;assumption
   ·obtain⟨q1,q2⟩:=abq c h;assumption
 obtain⟨f0,f1,f2,f3⟩:=Z4 (rate:=rate) (ch:=ch) (coding:=coding) h1 aa aa;unfold nL lp;rw[Yn hok];simp only;unfold sS;rw[SV hb.2];simp only;have hf:xg (pj rate ch coding) (lj l coding ch):=⟨rfl,by rw[f2];exact h2,by rw[f3];exact h3,by rw[f2,f3];exact h6⟩
 rw[if_pos hf,hb.1];unfold G2;rw[f0,f1,f2,f3];congr 2;omega
structure WS(n i:Nat)(ns:List cB)(o:List bO):Prop where
 len:ns.length+o.length=n
 inc:ns.Pairwise λa b=>a.1<b.1
 pos:∀m∈ns,(i:Int)<=m.1/\m.1<((i+n:Nat):Int)
theorem Rx:∀(l:List cB) (a b:Int),l.Pairwise (λa b=>a.1<b.1)->(∀m∈l,a<=m.1/\m.1<b)->(l.length:Int)<=b-a\/l=[]
 | [],_,_,_,_=>.inr rfl
 | m::r,a,b,hp,hl=>by
  obtain⟨q1,q2⟩:=lS.1 hp;have h0:=hl m ai;rcases Rx r (m.1+1) b q2 λx hx=>⟨by have:=q1 x hx;omega,(hl x (by simp[hx])).2⟩with h|h
  ·left;simp only[av];omega
  ·left;subst h;simp only[av,aI];omega
theorem air{ns:List cB}{o:List bO}(W:WS (n+1) i ns o) :
  (∃m r,ns=m::r/\m.1=(i:Int)/\eQ (n+1) i ns o=m.2::eQ n (i+1) r o/\WS n (i+1) r o) \/
  (∃c r,o=c::r/\(∀m t,ns=m::t->m.1≠(i:Int))/\eQ (n+1) i ns o=c::eQ n (i+1) ns r/\WS n (i+1) ns r):=by
 cases ns with
 | nil =>
  right;cases o with
  | nil=>have:=W.len;simp at this
  | cons c r=>exact⟨c,r,rfl,ai,rfl,⟨by have:=W.len;simpa using this,List.Pairwise.nil,ai⟩⟩
 | cons m r =>
  obtain⟨q1,q2⟩:=lS.1 W.inc;have hl:=W.len;have hm:=W.pos m ai;by_cases he:m.1=(i:Int)
  ·left;refine⟨m,r,rfl,he,by simp only[eQ];rw[if_pos he],⟨by simp at hl;omega,q2,λx hx=>?_⟩⟩;have:=q1 x hx;have:=W.pos x (by simp[hx]);omega
  ·right;have hpos:∀x∈m::r,((i+1:Nat):Int)<=x.1/\x.1<((i+1+n:Nat):Int):=by
    intro x hx;have h2:=W.pos x hx;rcases bB.1 hx with rfl|hx
    ·omega
    ·have:=q1 x hx;omega
   cases o with
   | nil =>
    exfalso;rcases Rx _ _ _ W.inc hpos with h|h
    ·simp only[av,aI]at hl h;omega
    ·cases h
   | cons c o =>
    refine⟨c,o,rfl,λx t hx=>by cases hx;exact he,by simp only[eQ];rw[if_neg he];rfl,⟨by simp at hl |-;omega,W.inc,hpos⟩⟩
theorem WS.start{ns:List cB}{o:List bO}(h:gj ns.length (-1) ns=true)(ho:o.length=2):WS (ns.length+2) 0 ns o:=by
 obtain⟨p1,p2⟩:=FU h;exact⟨aa,p1,λm hm=>by obtain⟨a1,a2,_⟩:=p2 m hm;omega⟩
theorem VU{v:ar}(h:(bI v).1=0):fG v=0/\∀p∈v.parts,fG p=0:=by
 unfold bI at h;split at h
 ·rename_i e he;exact absurd h (DQ he)
 ·rename_i m he;have key:∀ {d n m:Nat} {v:ar},fe d v n=.ok m->fG v=0:=by
   intro d n m v h;rw[BR]at h;split at h
   ·cases h
   ·rename_i h0;have h0:=Decidable.not_not.1 h0;unfold kH at h0;split at h0
    ·cases h0
    ·exact h0
  refine⟨key he,λp hp=>?_⟩;obtain⟨_,_,_,_,_,_,_,h8⟩:=tn he;obtain⟨a,b,h9⟩:=rO h8 p hp;exact key h9
theorem VX{v:ar}(h:(bI v).1=0)(h4:v.kind=4):v.names.length=v.parts.length/\v.num=0/\v.bytes=[]:=by
 obtain⟨_,hf,_⟩:=nB (VU h).1;unfold ig at hf;refine⟨aa,aa,bL aa⟩
theorem agM{v:ar}(hv:(bI v).1=0)(h:lX v=some (rate,ch,b)):v=p6 rate ch b/\rate<=65535/\(1<=ch/\ch<=2)/\b.length%(2*ch)=0:=by
 unfold lX at h;split at h
 ·rename_i r c s hp;split at h
  ·rename_i hs;cases h;have eK:=hs.r0;have dR:=hs.c0;obtain⟨_,k2⟩:=VU hv;have num:∀x:ar,fG x=0->x.kind=1->x=yt x.num:=by
    intro x hx h1;obtain⟨_,hf,_⟩:=nB hx;unfold ig at hf;exact ar.ext h1 rfl (bL aa) (bL aa) (bL aa)
   have iY:∀x:ar,fG x=0->x.kind=2->x=BO x.bytes:=by
    intro x hx h1;obtain⟨_,hf,_⟩:=nB hx;unfold ig at hf;exact ar.ext h1 (by show x.num=0;omega) rfl (bL aa) (bL aa)
   have e1:=num r (k2 r (by rw[hp];simp)) hs.rk;have e2:=num c (k2 c (by rw[hp];simp)) hs.ck;have e3:=iY s (k2 s (by rw[hp];simp)) hs.sk;obtain⟨n1,n2,n3⟩:=VX hv hs.kind;refine⟨ar.ext hs.kind n2 n3 hs.names ?_,aa,aa,hs.s0⟩;rw[hp];show[r,c,s]=[yt (r.num.toNat:Int),yt (c.num.toNat:Int),BO s.bytes]
   rw[q9 aa,q9 aa,<-e1,<-e2,<-e3]
  ·cases h
 ·cases h
end Go.Proofs.YtmoiobegbpkkbaaGreatDoor
