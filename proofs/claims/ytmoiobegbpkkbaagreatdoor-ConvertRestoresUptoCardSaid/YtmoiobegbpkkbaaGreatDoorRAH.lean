import Derived.Test.YtmoiobegbpkkbaaGreatDoorRAG
import Derived.Lib.IndexLaws
import Derived.Laws.IdiomCopy
import Derived.ChangeKeysEq
open Array renaming getElem?_eq_some_iff->jG
open Bool renaming false_eq_true->vR
open Int renaming toNat_natCast->e8,toNat_of_nonneg->q9
open List renaming getElem?_map->eu,getElem?_range->pP,all_eq_true->bj,getElem?_eq_none->jk,mem_cons->bB,append_nil->cm,length_nil->aI,take_append_drop->eN,getElem?_eq_some_iff->cW,length_cons->av,take_of_length_le->bR,drop_drop->oC,append_assoc->bJ,cons_append->aL,nil_append->aA,mem_map->cG,length_append->aq,length_take->bb,length_drop->bd,drop_left->k7,drop_append_of_le_length->Gw,take_left->pX,flatMap_cons->bz,mem_append->cq,mem_filterMap->sM,eq_nil_of_length_eq_zero->bL,nodup_append->vU,pairwise_append->ue,getElem?_set_ne->Ti,getElem_mem->cj,not_mem_nil->pQ,take_succ_eq_append_getElem->bZ,drop_eq_getElem_cons->j4,flatMap_append->bT,flatMap_nil->gB,mem_singleton->cv,map_congr_left->kY,getElem?_eq_getElem->a8,eq_nil_or_concat->yC,tail_cons->mJ,drop_length->yD,set_cons_zero->bC,length_map->bu,map_append->eZ,range_succ->sK,map_singleton->Gm,map_map->kz,map_id->pT,ext_getElem?->vP,getElem_cons_zero->pU,drop_one->A0,drop_left'->Ly,take_left'->Tr,length_range->qX,length_replicate->A3,isPrefixOf_iff_prefix->aez,concat_eq_append->LA,drop_replicate->Tv,getElem?_take_of_lt->LC,getElem?_set->TA
open List.cons renaming injEq->lT
open Nat renaming le_refl->aK,zero_add->dU,add_mul->uc,zero_le->cu,lt_of_le_of_lt->LD
open Option.some renaming inj->kX
open UInt8 renaming toNat_ofNat'->jl,toNat_inj->eF,toNat_lt->dY,ofNat_toNat->A2
namespace Go.Proofs.YtmoiobegbpkkbaaGreatDoor
open Go Go.RowKit
set_option maxRecDepth 100000
set_option maxHeartbeats 8000000
variable{lo:Bool}{n m fl y k a D:Nat}{c:UInt8}{raw l r t b d o:ad}{rs:bg}{Z:au}{s q:Sl}{v:ar}{P:Program}{T:List TD}{V w w0 V0:ae}{own:bU}{α:Type}
def iA(lo:Bool)(c:UInt8):Option Nat :=
 if 48<=c.toNat/\c.toNat<=57 then some (c.toNat-48)else if lo=true/\97<=c.toNat/\c.toNat<=102 then some (c.toNat-87)else if lo=false/\65<=c.toNat/\c.toNat<=70 then some (c.toNat-55)else none
def tK(lo:Bool)(n:Nat):Nat:=if n<10 then 48+n else if lo=true then 87+n else 55+n
def ft(lo:Bool)(n:Nat):UInt8:=UInt8.ofNat (tK lo n)
theorem CC(h:n<16):tK lo n<256/\48<=tK lo n:=by unfold tK;by_cases lD:n<10<;>by_cases hl:lo=true<;>simp only[lD,hl,if_true,if_false,vR]<;>omega
theorem vg(h:n<16):(ft lo n).toNat=tK lo n:=cH (CC h).1
theorem Ai(h:n<16):iA lo (ft lo n)=some n:=by
 unfold iA;rw[vg h];unfold tK;cases lo<;>simp only[vR,if_false,if_true,false_and,true_and,reduceCtorEq]<;>by_cases lD:n<10;all_goals simp only[lD,if_true,if_false]
 ·rw[if_pos aa];congr 1;omega
 ·rw[if_neg aa,if_pos aa];congr 1;omega
 ·rw[if_pos aa];congr 1;omega
 ·rw[if_neg aa,if_pos aa];congr 1;omega
theorem Fi(h:iA lo c=some n):n<16/\c=ft lo n:=by
 have e:n<16/\c.toNat=tK lo n:=by
  unfold iA at h;unfold tK;split at h
  ·cases h;rw[if_pos aa];omega
  split at h
  ·rename_i h2;cases h;rw[if_neg aa,if_pos h2.1];omega
  split at h
  ·rename_i h2;cases h;rw[if_neg aa,if_neg (by rw[h2.1];decide)];omega
  ·cases h
 refine⟨e.1,eF.1 ?_⟩;rw[vg e.1,e.2]
theorem Qw{RX:Bool}(hm:m<16)(hn:n<16)(h:ft lo m=ft RX n):m=n:=by
 have h:=congrArg UInt8.toNat h;rw[vg hm,vg hn]at h;unfold tK at h;cases lo<;>cases RX<;>simp only[vR,if_false,if_true]at h<;>split at h<;>split at h<;>omega
abbrev cC(fl:Nat):Bool:=decide (fl%2=1)
def cI(fl:Nat):ad:=if 2<=fl then[13,10]else[10]
def dF(lo:Bool)(raw:ad):ad:=raw.flatMap λc=>[ft lo (c.toNat/16),ft lo (c.toNat%16)]
def gX(fl:Nat)(raw:ad):ad:=58::(dF (cC fl) raw++cI fl)
theorem CE(lo:Bool)(raw:ad):(dF lo raw).length=2*raw.length:=by
 induction raw with
 | nil=>rfl
 | cons c r ih=>show(_::_::dF lo r).length=_;simp only[av];omega
theorem yh(fl:Nat)(raw:ad):2*raw.length+2<=(gX fl raw).length/\(gX fl raw).length<=2*raw.length+3:=by
 unfold gX cI;rw[av,aq,CE];split<;>simp only[av,aI]<;>omega
theorem uR(c:UInt8):c.toNat/16<16/\c.toNat%16<16/\UInt8.ofNat (16*(c.toNat/16)+c.toNat%16)=c:=by
 have:=c.toNat_lt;refine⟨aa,aa,?_⟩;rw[show 16*(c.toNat/16)+c.toNat%16=c.toNat by omega];exact A2
theorem QD{fl oa:Nat}{x y:ad}:∀ {raw DJ:ad},dF (cC fl) raw++(cI fl++x)=dF (cC oa) DJ++(cI oa++y)->raw=DJ/\x=y
 | [],[],h=>by
  refine⟨rfl,?_⟩;have h:cI fl++x=cI oa++y:=h;unfold cI at h;split at h<;>split at h<;>simp_all
 | [],c::r,h=>by
  exfalso;obtain⟨X,h⟩:∃X,cI fl++x=ft (cC oa) (c.toNat/16)::X:=⟨_,h⟩
  have:=(uR c).1;have e:=vg (lo:=cC oa) this;have l:=(CC (lo:=cC oa) this).2;unfold cI at h;split at h
  ·simp only[aL,lT]at h;rw[<-h.1]at e;have:(13:UInt8).toNat=13:=rfl;omega
  ·simp only[aL,lT]at h;rw[<-h.1]at e;have:(10:UInt8).toNat=10:=rfl;omega
 | c::r,[],h=>by
  exfalso;obtain⟨X,h⟩:∃X,ft (cC fl) (c.toNat/16)::X=cI oa++y:=⟨_,h⟩
  have:=(uR c).1;have e:=vg (lo:=cC fl) this;have l:=(CC (lo:=cC fl) this).2;unfold cI at h;split at h
  ·simp only[aL,lT]at h;rw[h.1]at e;have:(13:UInt8).toNat=13:=rfl;omega
  ·simp only[aL,lT]at h;rw[h.1]at e;have:(10:UInt8).toNat=10:=rfl;omega
 | c::r,d::s,h=>by
  have h:ft (cC fl) (c.toNat/16)::ft (cC fl) (c.toNat%16)::(dF (cC fl) r++(cI fl++x))=ft (cC oa) (d.toNat/16)::ft (cC oa) (d.toNat%16)::(dF (cC oa) s++(cI oa++y)):=h;rw[lT,lT]at h;obtain⟨h1,h2,h3⟩:=h;obtain⟨rfl,e2⟩:=QD h3;obtain⟨c1,c2,c3⟩:=uR c;obtain⟨d1,d2,d3⟩:=uR d;have k1:=Qw c1 d1 h1;have k2:=Qw c2 d2 h2;refine⟨?_,e2⟩;rw[<-c3,<-d3,k1,k2]
theorem RO{oa:Nat}{DJ x y:ad}(h:gX fl raw++x=gX oa DJ++y):raw=DJ/\x=y:=by
 unfold gX at h;rw[aL,aL,lT,bJ,bJ]at h;exact QD h.2
def j7(l:ad):Nat:=(l.map UInt8.toNat).sum
theorem UP(a b:ad):j7 (a++b)=j7 a+j7 b:=by simp[j7]
abbrev b8(l:ad)(i:Nat):Nat:=(l[i]?.getD 0).toNat
def kB(raw:ad):Prop:=5<=raw.length/\raw.length=5+b8 raw 0/\j7 raw%256=0
instance(raw:ad):Decidable (kB raw):=by unfold kB;infer_instance
def eM(lo:Bool):ad->ad×ad
 | a::b::t=>match iA lo a,iA lo b with
  | some x,some y=>(UInt8.ofNat (16*x+y)::(eM lo t).1,(eM lo t).2)
  | _,_=>([],a::b::t)
 | l=>([],l)
theorem K6(lo:Bool):∀(l:ad),dF lo (eM lo l).1++(eM lo l).2=l
 | []=>rfl
 | [a]=>rfl
 | a::b::t=>by
  unfold eM;cases h1:iA lo a with
  | none=>rfl
  | some x =>
   cases h2:iA lo b with
   | none=>rfl
   | some y =>
    obtain⟨x1,rfl⟩:=Fi h1;obtain⟨y1,rfl⟩:=Fi h2;simp only;have e:(UInt8.ofNat (16*x+y)).toNat=16*x+y:=cH aa;show ft lo ((UInt8.ofNat (16*x+y)).toNat/16)::ft lo ((UInt8.ofNat (16*x+y)).toNat%16)::(dF lo (eM lo t).1++(eM lo t).2)=_;rw[e,K6 lo t,show(16*x+y)/16=x by omega,show(16*x+y)%16=y by omega]
theorem K7(lo:Bool){e:UInt8}(he:e.toNat<48)(r:ad):∀(raw:ad),eM lo (dF lo raw++e::r)=(raw,e::r)
 | []=>by
  have h:iA lo e=none:=by unfold iA;rw[if_neg aa,if_neg aa,if_neg aa]
  cases r with
  | nil=>rfl
  | cons b t =>
   show eM lo (e::b::t)=_;unfold eM;rw[h]
 | c::raw=>by
  obtain⟨c1,c2,c3⟩:=uR c;show eM lo (ft lo (c.toNat/16)::ft lo (c.toNat%16)::(dF lo raw++e::r))=_;unfold eM;rw[Ai c1,Ai c2];simp only;rw[K7 lo he r raw,c3]
def nJ(fl:Nat):ad->Option (ad×ad)
 | []=>none
 | c::t=>if c=58/\(eM (cC fl) t).2.take (cI fl).length=cI fl/\kB (eM (cC fl) t).1 then some ((eM (cC fl) t).1,(eM (cC fl) t).2.drop (cI fl).length)else none
theorem TY(fl:Nat)(c:UInt8)(t:ad):nJ fl (c::t)=if c=58/\(eM (cC fl) t).2.take (cI fl).length=cI fl/\kB (eM (cC fl) t).1 then some ((eM (cC fl) t).1,(eM (cC fl) t).2.drop (cI fl).length)else none:=rfl
theorem yI :nJ fl l=some (raw,r)↔l=gX fl raw++r/\kB raw:=by
 constructor
 ·intro h;cases l with
  | nil=>cases h
  | cons c t =>
   rw[TY]at h;by_cases hc:c=58/\(eM (cC fl) t).2.take (cI fl).length=cI fl/\kB (eM (cC fl) t).1
   ·rw[if_pos hc]at h;cases h;obtain⟨rfl,h2,h3⟩:=hc;refine⟨?_,h3⟩;unfold gX;rw[aL,bJ];conv=>lhs;rw[<-K6 (cC fl) t,<-eN (cI fl).length (eM (cC fl) t).2,h2]
   ·rw[if_neg hc]at h;cases h
 ·rintro⟨rfl,h2⟩;unfold gX;rw[aL,bJ];have e:eM (cC fl) (dF (cC fl) raw++(cI fl++r))=(raw,cI fl++r):=by
   unfold cI;split
   ·exact K7 _ ag _ raw
   ·exact K7 _ ag _ raw
  rw[TY,e];simp only;rw[if_pos ⟨by trivial,by rw[pX],h2⟩,k7]
def yK(fl:Nat):Nat->ad->Option bg
 | _,[]=>some []
 | 0,_=>none
 | n+1,l=>match nJ fl l with
  | none=>none
  | some (raw,r)=>match yK fl n r with
   | none=>none
   | some rs=>some (raw::rs)
def pZ(fl:Nat)(l:ad):Option bg:=yK fl l.length l
theorem afs:∀ {n:Nat} {l:ad} {rs:bg},l.length<=n->(yK fl n l=some rs↔l=rs.flatMap (gX fl)/\∀r∈rs,kB r):=by
 intro n;induction n with
 | zero =>
  intro l rs hl;obtain rfl:=bL (by omega:l.length=0);unfold yK;constructor
  ·intro h;cases h;exact⟨rfl,ai⟩
  ·rintro⟨h1,_⟩;cases rs with
   | nil=>rfl
   | cons a rs =>
    have:=congrArg List.length h1;rw[bz,aq]at this;have:=(yh fl a).1;simp only[aI]at *;omega
 | succ n ih =>
  intro l rs hl;cases l with
  | nil =>
   unfold yK;constructor
   ·intro h;cases h;exact⟨rfl,ai⟩
   ·rintro⟨h1,_⟩;cases rs with
    | nil=>rfl
    | cons a rs =>
     have:=congrArg List.length h1;rw[bz,aq]at this;have:=(yh fl a).1;simp only[aI]at *;omega
  | cons c t =>
   show(match nJ fl (c::t)with
    | none=>none
    | some (raw,r)=>match yK fl n r with
     | none=>none
     | some rs=>some (raw::rs))=some rs↔_
   cases hr:nJ fl (c::t)with
   | none =>
    simp only;constructor
    ·intro h;cases h
    ·rintro⟨h1,h2⟩;cases rs with
     | nil=>cases h1
     | cons a rs =>
      rw[bz]at h1;rw[yI.2 ⟨h1,h2 a ai⟩]at hr;cases hr
   | some p =>
    obtain⟨raw,r⟩:=p;obtain⟨e1,e2⟩:=yI.1 hr;have hlen:r.length<=n:=by
     have:=congrArg List.length e1;rw[aq]at this;have:=(yh fl raw).1;simp only[av]at *;omega
    simp only;constructor
    ·intro h;cases hq:yK fl n r with
     | none=>rw[hq]at h;cases h
     | some qs =>
      rw[hq]at h;cases h;obtain⟨f1,f2⟩:=(ih hlen).1 hq;refine⟨by rw[bz,<-f1];exact e1,λx hx=>?_⟩;rcases bB.1 hx with rfl|hx
      ·exact e2
      ·exact f2 x hx
    ·rintro⟨h1,h2⟩;cases rs with
     | nil=>cases h1
     | cons a rs =>
      rw[bz,e1]at h1;obtain⟨rfl,rfl⟩:=RO h1;rw[(ih hlen).2 ⟨rfl,λx hx=>h2 x (by simp[hx])⟩]
theorem vX :pZ fl l=some rs↔l=rs.flatMap (gX fl)/\∀r∈rs,kB r:=afs (aK _)
theorem Ub(fl:Nat):pZ fl []=some []:=rfl
theorem aft(hl:l≠[])(h:nJ fl l=none):pZ fl l=none:=by
 cases hr:pZ fl l with
 | none=>rfl
 | some rs =>
  obtain⟨h1,h2⟩:=vX.1 hr;cases rs with
  | nil=>exact absurd h1 hl
  | cons a rs =>
   rw[bz]at h1;rw[yI.2 ⟨h1,h2 a ai⟩]at h;cases h
theorem Uc(h:nJ fl l=some (raw,r)):pZ fl l=match pZ fl r with
  | none=>none
  | some rs=>some (raw::rs):=by
 obtain⟨e1,e2⟩:=yI.1 h;cases hr:pZ fl r with
 | some rs =>
  obtain⟨f1,f2⟩:=vX.1 hr;refine vX.2 ⟨by rw[bz,<-f1];exact e1,λx hx=>?_⟩;rcases bB.1 hx with rfl|hx
  ·exact e2
  ·exact f2 x hx
 | none =>
  cases hl:pZ fl l with
  | none=>rfl
  | some qs =>
   obtain⟨f1,f2⟩:=vX.1 hl;cases qs with
   | nil=>rw[f1]at h;cases h
   | cons a qs =>
    rw[bz,e1]at f1;obtain⟨rfl,rfl⟩:=RO f1;rw[vX.2 ⟨rfl,λx hx=>f2 x (by simp[hx])⟩]at hr;cases hr
abbrev bH:=Nat×ad
def jm(raw:ad):Nat:=256*b8 raw 1+b8 raw 2
def la(raw:ad):ad:=(raw.drop 4).take (b8 raw 0)
theorem TT(h:kB raw):(la raw).length=b8 raw 0:=by
 have:=h.2.1;simp[la];omega
def oZ(at_:Nat)(c:ad)(S:List bH):List bH:=match S.getLast? with
 | none=>[(at_,c)]
 | some x=>if x.1+x.2.length=at_ then S.dropLast++[(x.1,x.2++c)]else S++[(at_,c)]
theorem HO(a:Nat)(c:ad):oZ a c []=[(a,c)]:=rfl
theorem BF(a:Nat)(c:ad)(S:List bH)(x:bH):oZ a c (S++[x])=if x.1+x.2.length=a then S++[(x.1,x.2++c)]else S++[x]++[(a,c)]:=by
 unfold oZ;rw[List.getLast?_concat,List.dropLast_concat]
def B1(raw:ad):Prop:=b8 raw 3=0/\b8 raw 0≠0/\jm raw+b8 raw 0<=65536
instance(raw:ad):Decidable (B1 raw):=by unfold B1;infer_instance
def EM(raw:ad):Prop:=b8 raw 0=0/\jm raw=0/\b8 raw 3=1
instance(raw:ad):Decidable (EM raw):=by unfold EM;infer_instance
def rV(S:List bH)(Z:au):bg->Option (List bH×au)
 | []=>none
 | [raw]=>if EM raw then some (S,Z)else none
 | raw::rs=>if B1 raw then rV (oZ (jm raw) (la raw) S) (Z++[b8 raw 0]) rs else none
theorem I3(S:List bH)(Z:au)(raw:ad):rV S Z [raw]=if EM raw then some (S,Z)else none:=by rw[rV]
theorem I2(S:List bH)(Z:au)(raw:ad){rs:bg}(h:rs≠[]):rV S Z (raw::rs)=if B1 raw then rV (oZ (jm raw) (la raw) S) (Z++[b8 raw 0]) rs else none:=by
 cases rs with
 | nil=>exact absurd rfl h
 | cons a rs=>rw[rV];simp
def xH(fl:Nat)(l:ad):Option (List bH×au):=match pZ fl l with
 | none=>none
 | some rs=>rV [] [] rs
def vV(fl:Nat)(S:List bH)(Z:au)(l:ad):Option (List bH×au):=match pZ fl l with
 | none=>none
 | some rs=>rV S Z rs
theorem T4{S:List bH}(h:nJ fl l=none):vV fl S Z l=none:=by
 cases l with
 | nil=>rfl
 | cons c t=>unfold vV;rw[aft ai h]
theorem ae9{S:List bH}(h:nJ fl l=some (raw,r))(hk:b8 raw 3=1):vV fl S Z l=if b8 raw 0=0/\jm raw=0/\r=[]then some (S,Z)else none:=by
 unfold vV;rw[Uc h];by_cases hr:r=[]
 ·subst hr;rw[Ub];simp only;rw[I3];by_cases h2:b8 raw 0=0/\jm raw=0
  ·rw[if_pos ⟨h2.1,h2.2,hk⟩,if_pos ⟨h2.1,h2.2,by trivial⟩]
  ·rw[if_neg λq=>h2 ⟨q.1,q.2.1⟩,if_neg λq=>h2 ⟨q.1,q.2.1⟩]
 ·rw[if_neg λq=>hr q.2.2];cases hq:pZ fl r with
  | none=>rfl
  | some rs =>
   simp only;have hrs:rs≠[]:=by
    rintro rfl;exact hr (vX.1 hq).1
   rw[I2 _ _ _ hrs,if_neg λq=>by have:=q.1;omega]
theorem ae8{S:List bH}(h:nJ fl l=some (raw,r))(hk:b8 raw 3≠1):vV fl S Z l=if B1 raw then vV fl (oZ (jm raw) (la raw) S) (Z++[b8 raw 0]) r else none:=by
 unfold vV;rw[Uc h];by_cases hr:r=[]
 ·subst hr;rw[Ub];simp only;rw[I3,if_neg λq=>hk q.2.2];split<;>rfl
 ·cases hq:pZ fl r with
  | none=>simp only;split<;>rfl
  | some rs =>
   simp only;have hrs:rs≠[]:=by
    rintro rfl;exact hr (vX.1 hq).1
   rw[I2 _ _ _ hrs]
def gG(n:Nat):au:=if n=0 then[]else if n<=16 then[n]else 16::gG (n-16)
def iG(S:List bH):au:=S.flatMap λs=>gG s.2.length
theorem M8:gG 0=[]:=by rw[gG,if_pos rfl]
theorem M7(h0:n≠0)(h:n<=16):gG n=[n]:=by rw[gG,if_neg h0,if_pos h]
theorem M5(h:16<n):gG n=16::gG (n-16):=by rw[gG,if_neg aa,if_neg aa]
def yW(b:ad):UInt8:=UInt8.ofNat (256-j7 b%256)
def vW(a kind:Nat)(c:ad):ad:=[UInt8.ofNat c.length,UInt8.ofNat (a/256),UInt8.ofNat a,UInt8.ofNat kind]++c
def gw(a kind:Nat)(c:ad):ad:=vW a kind c++[yW (vW a kind c)]
def jP(a:Nat):ad->au->Option (bg×au)
 | [],Z=>some ([],Z)
 | _::_,[]=>none
 | c::d,n::Z=>if n<=(c::d).length then(match jP (a+n) ((c::d).drop n) Z with
   | none=>none
   | some (rs,Z')=>some (gw a 0 ((c::d).take n)::rs,Z'))else none
def dq:List bH->au->Option bg
 | [],Z=>if Z=[]then some []else none
 | (a,d)::S,Z=>match jP a d Z with
  | none=>none
  | some (rs,Z')=>match dq S Z' with
   | none=>none
   | some qs=>some (rs++qs)
def pq(fl:Nat)(S:List bH)(Z:au):fx:=match dq S (if Z=[]then iG S else Z)with
 | none=>none
 | some rs=>some ((rs++[gw 0 1 []]).flatMap (gX fl))
def oG(lo:Bool):ad->fx
 | []=>none
 | c::t=>if c=58/\(eM lo t).2=[]/\kB (eM lo t).1 then some (eM lo t).1 else none
theorem K5(lo:Bool):∀(raw:ad),eM lo (dF lo raw)=(raw,[])
 | []=>rfl
 | c::raw=>by
  obtain⟨c1,c2,c3⟩:=uR c;show eM lo (ft lo (c.toNat/16)::ft lo (c.toNat%16)::dF lo raw)=_;unfold eM;rw[Ai c1,Ai c2];simp only;rw[K5 lo raw,c3]
theorem GF(lo:Bool)(c:UInt8)(t:ad):oG lo (c::t)=if c=58/\(eM lo t).2=[]/\kB (eM lo t).1 then some (eM lo t).1 else none:=rfl
theorem GH{s:ad}:oG lo s=some raw↔s=58::dF lo raw/\kB raw:=by
 constructor
 ·intro h;cases s with
  | nil=>cases h
  | cons c t =>
   rw[GF]at h;by_cases hc:c=58/\(eM lo t).2=[]/\kB (eM lo t).1
   ·rw[if_pos hc]at h;cases h;refine⟨?_,hc.2.2⟩;have:=K6 lo t;rw[hc.2.1,cm]at this;rw[this,hc.1]
   ·rw[if_neg hc]at h;cases h
 ·rintro⟨rfl,h2⟩;rw[GF,K5,if_pos ⟨rfl,rfl,h2⟩]
theorem T1{s:ad}(h:∀raw,s=58::dF lo raw->¬kB raw):oG lo s=none:=by
 cases hr:oG lo s with
 | none=>rfl
 | some raw =>
  obtain⟨h1,h2⟩:=GH.1 hr;exact absurd h2 (h raw h1)
theorem aaN(h:c∈dF lo raw):48<=c.toNat:=by
 unfold dF at h;obtain⟨b,_,hb⟩:=List.mem_flatMap.1 h;obtain⟨b1,b2,_⟩:=uR b;simp only[bB,pQ,or_false]at hb;rcases hb with rfl|rfl
 ·rw[vg b1];exact(CC b1).2
 ·rw[vg b2];exact(CC b2).2
theorem Pf(fl:Nat):∃e r,cI fl=e::r/\e.toNat<48:=by
 unfold cI;split
 ·exact⟨13,[10],rfl,ag⟩
 ·exact⟨10,[],rfl,ag⟩
theorem aca(fl:Nat){a:ad}(h:∀c∈a,48<=c.toNat)(r:ad):Lib.NoOcc (a++r) (cI fl) a.length:=λj hj=>by
 obtain⟨e,es,he,hlt⟩:=Pf fl;unfold Lib.occAt;rw[he,Gw aa,j4 hj];have hc:=h a[j] (cj hj);have:(e == a[j])=false:=by
  rw[beq_eq_false_iff_ne];intro q;rw[<-q]at hc;omega
 rw[aL];simp[List.isPrefixOf,this]
theorem RQ(fl:Nat){a:ad}(h:∀c∈a,48<=c.toNat)(r:ad):Lib.index (a++(cI fl++r)) (cI fl)=(a.length:Nat):=by
 refine Lib.index_hit (aca fl h _) ai ?_;unfold Lib.occAt;rw[k7];exact aez.2 ⟨r,rfl⟩
theorem RP :∀c∈(58::dF lo raw:ad),48<=c.toNat:=λc hc=>by
 rcases bB.1 hc with rfl|hc
 ·decide
 ·exact aaN hc
theorem FH(fl:Nat)(raw r:ad):gX fl raw++r=(58::dF (cC fl) raw)++(cI fl++r):=by
 unfold gX;simp
theorem RA:∀ {s sub:ad} {i:Nat},Lib.index s sub=(i:Nat)->Lib.occAt s sub i=true/\i<=s.length
 | [],sub,i,h=>by
  unfold Lib.index at h;split at h
  ·rename_i he;obtain rfl:i=0:=aa;cases sub with
   | nil=>exact⟨rfl,aK _⟩
   | cons a r=>simp at he
  ·omega
 | b::l,sub,i,h=>by
  unfold Lib.index at h;split at h
  ·rename_i he;obtain rfl:i=0:=aa;exact⟨he,cu _⟩
  ·split at h
   ·omega
   ·have kT:=Lib.index_ge l sub;have hne:Lib.index l sub ≠ -1:=λe=>by rename_i h2;exact h2 (beq_iff_eq.2 e)
    obtain⟨j,rfl⟩:∃j,i=j+1:=⟨i-1,aa⟩
    obtain⟨h1,h2⟩:=RA (s:=l) (sub:=sub) (i:=j) aa;exact⟨h1,by simp only[av];omega⟩
theorem ae0(h:Lib.index l (cI fl) = -1):nJ fl l=none:=by
 cases hr:nJ fl l with
 | none=>rfl
 | some p =>
  obtain⟨raw,r⟩:=p;obtain⟨h1,_⟩:=yI.1 hr;rw[h1,FH,RQ fl RP]at h;omega
theorem aeZ{i:Nat}(h:Lib.index l (cI fl)=(i:Nat))(ho:Lib.occAt l (cI fl) i=true):nJ fl l=match oG (cC fl) (l.take i)with
  | none=>none
  | some raw=>some (raw,l.drop (i+(cI fl).length)):=by
 have hl:l=l.take i++(cI fl++l.drop (i+(cI fl).length)):=by
  unfold Lib.occAt at ho;obtain⟨t,ht⟩:=aez.1 ho;have:l.drop (i+(cI fl).length)=t:=by rw[<-oC,<-ht,k7]
  rw[this,ht,eN]
 cases hs:oG (cC fl) (l.take i)with
 | some raw =>
  obtain⟨h1,h2⟩:=GH.1 hs;refine yI.2 ⟨?_,h2⟩;rw[FH,<-h1];exact hl
 | none =>
  simp only;cases hr:nJ fl l with
  | none=>rfl
  | some p =>
   obtain⟨raw,r⟩:=p;obtain⟨h1,h2⟩:=yI.1 hr;have h3:=h;rw[h1,FH,RQ fl RP]at h3;have hi:i=(58::dF (cC fl) raw:ad).length:=aa;rw[h1,FH,hi,pX]at hs;rw[GH.2 ⟨rfl,h2⟩]at hs;cases hs
def uZ(lo:Bool):ad:=(List.range 16).map (ft lo)
def tJ(lo:Bool)(c:UInt8):Int:=match iA lo c with
 | none => -1
 | some n=>n
theorem O3(h:n<16):(uZ lo)[n]?=some (ft lo n):=by simp[uZ,h]
theorem O4(lo:Bool)(c:UInt8):Lib.indexByte (uZ lo) c=tJ lo c:=by
 have key:∀n,n<256->Lib.indexByte (uZ true) (UInt8.ofNat n)=tJ true (UInt8.ofNat n)/\Lib.indexByte (uZ false) (UInt8.ofNat n)=tJ false (UInt8.ofNat n):=by decide +kernel
 have:=key c.toNat c.toNat_lt;rw[A2]at this;cases lo
 ·exact this.2
 ·exact this.1
theorem ag4(h:k<l.length):j7 (l.take (k+1))=j7 (l.take k)+l[k].toNat:=by
 rw[bZ h,UP];simp[j7]
theorem Qv :tJ lo c<0↔iA lo c=none:=by
 unfold tJ;cases iA lo c with
 | none=>simp
 | some n=>simp
theorem Jz(h:iA lo c=some n):tJ lo c=n:=by unfold tJ;rw[h]
theorem aaP{k:Nat}{x:Nat}(hx:x<16)(hy:y<16):dF lo raw++[ft lo x,ft lo y]=dF lo (raw++[UInt8.ofNat (16*x+y)]):=by
 unfold dF;rw[bT];have e:(UInt8.ofNat (16*x+y)).toNat=16*x+y:=cH aa;simp only[bz,gB,cm];rw[e,show(16*x+y)/16=x by omega,show(16*x+y)%16=y by omega]
theorem QC{lo:Bool}:∀ {raw:ad} {k:Nat},k<raw.length->(∃x,x<16/\(dF lo raw)[2*k]?=some (ft lo x))/\∃y,y<16/\(dF lo raw)[2*k+1]?=some (ft lo y)
 | [],k,h=>by simp at h
 | c::raw,0,_=>by
  obtain⟨c1,c2,_⟩:=uR c;exact⟨⟨_,c1,rfl⟩,_,c2,rfl⟩
 | c::raw,k+1,h=>by
  have:=QC (lo:=lo) (raw:=raw) (k:=k) (by simpa using h);have e1:(dF lo (c::raw))[2*(k+1)]?=(dF lo raw)[2*k]?:=by
   show(_::_::dF lo raw)[2*k+1+1]?=_;rfl
  have e2:(dF lo (c::raw))[2*(k+1)+1]?=(dF lo raw)[2*k+1]?:=by
   show(_::_::dF lo raw)[2*k+1+1+1]?=_;rfl
  rw[e1,e2];exact this
theorem ae3(h:k<t.length)(hd:iA lo t[k]=none):oG lo (58::t)=none:=T1 λraw he=>by
 exfalso;rw[lT]at he;obtain⟨_,he⟩:=he;subst he;rw[CE]at h;obtain⟨⟨x,hx,h1⟩,y,hy,h2⟩:=QC (lo:=lo) (raw:=raw) (k:=k/2) aa;have hg:(dF lo raw)[k]?=some ((dF lo raw)[k]'(by rw[CE];exact h)):=a8 _;by_cases e:k%2=0
 ·rw[show 2*(k/2)=k by omega,hg]at h1;rw[kX h1,Ai hx]at hd;cases hd
 ·rw[show 2*(k/2)+1=k by omega,hg]at h2;rw[kX h2,Ai hy]at hd;cases hd
theorem ae4(h:t.length%2≠0):oG lo (58::t)=none:=T1 λraw he=>by
 rw[lT]at he;rw[he.2,CE]at h;omega
theorem ae2 :oG lo (58::dF lo raw)=if kB raw then some raw else none:=by
 rw[GF,K5];simp only[true_and]
abbrev yN:ad:=[97,116]
abbrev yO:ad:=[100,97,116,97]
abbrev wj(s:bH):ar:=.mk 4 0 [] [yN,yO] [.mk 1 (s.1:Int) [] [] [],.mk 2 0 s.2 [] []]
abbrev od(S:List bH):ar:=.mk 3 0 [] [] (S.map wj)
abbrev ints(Z:au):List Int:=Z.map λ(n:Nat)=>(n:Int)
def iS(fl:Nat)(Z:au):ad:=if fl=0/\Z=[]then[]else aM fl++bY aM (ints Z)
def j8(S:List bH)(Z:au):au:=if Z=iG S then[]else Z
def km(fl:Nat)(l:ad):Option (ar×ad):=match xH fl l with
 | none=>none
 | some (S,Z)=>if(bI (od S)).1=0 then some (od S,iS fl (j8 S Z))else none
def Fl(l:ad):Nat->Option (ar×ad)
 | 0=>none
 | n+1=>match km (3-n) l with
  | some x=>some x
  | none=>Fl l n
def gL(l:ad):Option (ar×ad):=Fl l 4
def nK(r:ar):Option bH:=if r.kind=4/\r.names=[yN,yO]then(match r.parts with
 | [a,d]=>if a.kind=1/\d.kind=2/\0<=a.num/\a.num<65536/\d.bytes≠[]/\(d.bytes.length:Int)<=65536-a.num then some (a.num.toNat,d.bytes)else none
 | _=>none)else none
def kn(v:ar):Option (List bH):=if v.kind=3 then allM nK v.parts else none
def oK(z:List Int):Prop:=∀n∈z,1<=n/\n<=255
instance(z:List Int):Decidable (oK z):=by unfold oK;infer_instance
def pv(b:ad):Option (Int×List Int):=match cD b 0 with
 | .bad _ _=>none
 | .ok c p=>match bX b (cD b) 1000 p with
  | .bad _ _=>none
  | .ok z q=>if q=b.length then some (c,z)else none
def kS(b:ad):Option (Nat×au):=if b=[]then some (0,[])else match pv b with
 | none=>none
 | some (c,z)=>if(0<=c/\c<4)/\¬(c=0/\z=[])/\oK z then some (c.toNat,z.map Int.toNat)else none
noncomputable def jU(v:ar)(b:ad):fx:=match kn v with
 | none=>none
 | some S=>match kS b with
  | none=>none
  | some (fl,Z)=>match pq fl S Z with
   | none=>none
   | some o=>if o.length<=1000/\gL o=some (v,b)then some o else none
abbrev acA:ad:=[108,111,119,101,114,32,99,97,115,101]
abbrev acz:ad:=[99,97,114,114,105,97,103,101,32,114,101,116,117,114,110,32,97,110,100,32,108,105,110,101,32,102,101,101,100]
abbrev acD:ad:=[114,101,99,111,114,100,115]
def Db(fl n:Nat):List oT:=(if fl%2=1 then[(acA,1)]else[])++(if 2<=fl then[(acz,1)]else[])++(if 0<n then[(acD,(n:Int))]else[])
def QF(b:ad):Option (List oT):=match kS b with
 | none=>none
 | some (fl,Z)=>some (Db fl Z.length)
theorem Ku(Z:au):(ints Z).map Int.toNat=Z:=by
 unfold ints;rw[kz];conv=>rhs;rw[<-pT Z]
 exact kY λx _=>by simp
theorem aaW(hf:fl<4)(hl:Z.length<=1000)(hz:∀n∈Z,n<=255):pv (aM fl++bY aM (ints Z))=some ((fl:Int),ints Z):=by
 obtain⟨b,hb⟩:∃b,b=aM (fl:Int)++bY aM (ints Z):=⟨_,rfl⟩
 rw[<-hb];have e1:b=[]++(aM (fl:Int)++bY aM (ints Z)):=by rw[hb];rfl
 have n1:=kq (n:=(fl:Int)) aa aa [] (bY aM (ints Z));rw[<-e1]at n1;have e2:b=aM (fl:Int)++(aM ((ints Z).length:Int)++((ints Z).flatMap aM++[])):=by rw[hb,bY,cm]
 have eE:(ints Z).length=Z.length:=ai;have n2:=kq (n:=((ints Z).length:Int)) aa aa (aM (fl:Int)) ((ints Z).flatMap aM++[]);rw[<-e2]at n2;have hbl:=congrArg List.length e2;simp only[aq,aI]at hbl;have n3:=Az (f:=aM) (b:=b) (one:=cD b) (ints Z) ((aM (fl:Int)).length+(aM ((ints Z).length:Int)).length) aa (λx hx q r hq hd=>by
  obtain⟨n,hn,rfl⟩:=cG.1 hx;have:=hz n hn;have e:b=b.take q++(aM (n:Int)++r):=by rw[<-hd,eN]
  have eW:(b.take q).length=q:=by simp;omega
  have:=kq (n:=(n:Int)) aa aa (b.take q) r;rwa [eW,<-e]at this) [] (by
   rw[<-oC];conv=>lhs;rw[e2]
   rw[k7,k7])
 unfold pv;simp only[aI,dU]at n1;rw[n1];simp only;unfold bX;rw[n2];simp only;rw[if_neg aa,e8,n3];simp only;rw[if_pos aa]
theorem QG(hf:fl<4)(hl:Z.length<=1000)(hz:∀n∈Z,1<=n/\n<=255):kS (iS fl Z)=some (fl,Z):=by
 unfold iS;split
 ·rename_i h;obtain⟨rfl,rfl⟩:=h;rfl
 ·rename_i hne;unfold kS;rw[if_neg,aaW hf hl λn hn=>(hz n hn).2]
  ·simp only;rw[if_pos,e8,Ku];refine⟨aa,λq=>hne ⟨aa,?_⟩,λn hn=>?_⟩
   ·have:=q.2;simpa [ints]using this
   ·obtain⟨m,hm,rfl⟩:=cG.1 hn;have:=hz m hm;omega
  ·intro h;have:=congrArg List.length h;have:=pM (zz (fl:Int));simp only[aq,aM,aI]at *;omega
theorem aaX{c:Int}{z:List Int}(h:pv b=some (c,z)):b=aM c++bY aM z/\dx c/\z.length<=1000:=by
 unfold pv at h;split at h
 ·cases h
 ·rename_i c' p h1;split at h
  ·cases h
  ·rename_i z' q h2;split at h
   ·rename_i hq;cases h;have a1:=lO (cu _) h1;obtain⟨a2,a3,_,a4⟩:=eX (cu _) h1;unfold bX at h2;split at h2
    ·cases h2
    ·rename_i n p2 h3;split at h2
     ·cases h2
     ·rename_i hn;have b1:=lO a3 h3;obtain⟨b2,b3,_,b4⟩:=eX a3 h3;obtain⟨c1,c2,c3,c4⟩:=yl (f:=aM) (b:=b) (one:=cD b) (λp q x hp h=>by
       obtain⟨d1,d2,_,_⟩:=eX hp h;exact⟨aa,d2,lO hp h⟩) n.toNat p2 q z b3 h2
      rw[List.drop_zero]at a1;rw[hq,yD,cm]at c4;refine⟨?_,a4,aa⟩;rw[a1,b1,c4,bY,c1,q9 aa]
   ·cases h
theorem aaZ(h:kS b=some (fl,Z)):fl<4/\Z.length<=1000/\(∀n∈Z,1<=n/\n<=255)/\b=iS fl Z:=by
 unfold kS at h;split at h
 ·rename_i hb;cases h;exact⟨aa,ai,ai,by rw[hb];rfl⟩
 ·split at h
  ·cases h
  ·rename_i c z hr;obtain⟨h1,h2,h3⟩:=aaX hr;split at h
   ·rename_i hc;cases h;obtain⟨c1,c2,c3⟩:=hc;have hz:ints (z.map Int.toNat)=z:=by
     unfold ints;rw[kz];conv=>rhs;rw[<-pT z]
     refine kY λx hx=>?_;have:=c3 x hx;show((x.toNat:Nat):Int)=x;omega
    refine⟨aa,by simpa using h3,λn hn=>?_,?_⟩
    ·obtain⟨x,hx,rfl⟩:=cG.1 hn;have:=c3 x hx;omega
    ·unfold iS;rw[if_neg,hz,q9 c1.1]
     ·exact h1
     ·rintro⟨q1,q2⟩;refine c2 ⟨aa,?_⟩;simpa using q2
   ·cases h
theorem afF :iS fl Z=[]↔fl=0/\Z=[]:=by
 unfold iS;constructor
 ·intro h;split at h
  ·assumption
  ·have:=congrArg List.length h;have:=pM (zz (fl:Int));simp only[aq,aM,aI]at *;omega
 ·intro h;rw[if_pos h]
theorem aco(hf:fl<4):Db fl n=[]↔fl=0/\n=0:=by
 unfold Db;by_cases h1:fl%2=1
 ·simp[h1];omega
 ·by_cases h2:2<=fl
  ·simp[h2];omega
  ·by_cases h3:0<n
   ·simp[h3];omega
   ·simp[h1,h2,h3];omega
theorem acn(fl n:Nat):(Db fl n).length<=3:=by
 unfold Db;simp only[aq];split<;>split<;>split<;>simp
theorem zK(a:Nat)(Z:au):jP a [] Z=some ([],Z):=by rw[jP]
theorem BX(h:d≠[]):jP a d []=none:=by
 cases d with
 | nil=>exact absurd rfl h
 | cons c d=>rw[jP]
theorem wZ(h:d≠[]):jP a d (n::Z)=if n<=d.length then(match jP (a+n) (d.drop n) Z with
  | none=>none
  | some (rs,Z')=>some (gw a 0 (d.take n)::rs,Z'))else none:=by
 cases d with
 | nil=>exact absurd rfl h
 | cons c d=>rw[jP]<;>rfl
theorem Is(Y:au):∀ {Z:au} {a:Nat} {d:ad} {rs:bg} {Z':au},jP a d Z=some (rs,Z')->jP a d (Z++Y)=some (rs,Z'++Y)
 | [],a,d,rs,Z',h=>by
  by_cases hd:d=[]
  ·subst hd;rw[zK]at h |-;cases h;rfl
  ·rw[BX hd]at h;cases h
 | n::Z,a,d,rs,Z',h=>by
  by_cases hd:d=[]
  ·subst hd;rw[zK]at h |-;cases h;rfl
  ·rw[aL];rw[wZ hd]at h |-;split at h
   ·rename_i hn;rw[if_pos hn];cases hc:jP (a+n) (d.drop n) Z with
    | none=>rw[hc]at h;cases h
    | some p =>
     obtain⟨q,Z2⟩:=p;rw[hc]at h;cases h;rw[Is Y hc]
   ·cases h
theorem Of{c:ad}(hc:c≠[]):jP a c [c.length]=some ([gw a 0 c],[]):=by
 rw[wZ hc,if_pos (aK _),yD,zK,List.take_length]
theorem Oe{c:ad}(hc:c≠[]):∀ {Z:au} {a:Nat} {d:ad} {rs:bg},jP a d Z=some (rs,[])->jP a (d++c) (Z++[c.length])=some (rs++[gw (a+d.length) 0 c],[])
 | [],a,d,rs,h=>by
  by_cases hd:d=[]
  ·subst hd;rw[zK]at h;cases h;exact Of hc
  ·rw[BX hd]at h;cases h
 | n::Z,a,d,rs,h=>by
  by_cases hd:d=[]
  ·subst hd;rw[zK]at h;cases h
  ·rw[wZ hd]at h;rw[aL,wZ (by simp[hd])];split at h
   ·rename_i hn;rw[if_pos (by rw[aq];omega),Gw hn,List.take_append_of_le_length hn];cases hq:jP (a+n) (d.drop n) Z with
    | none=>rw[hq]at h;cases h
    | some p =>
     obtain⟨q,Z2⟩:=p;rw[hq]at h;cases h;rw[Oe hc hq];simp only[aL,bd];rw[show a+n+(d.length-n)=a+d.length by omega]
   ·cases h
theorem Hv{S:List bH}{Z':au}{q qs:bg}(h1:jP a d Z=some (q,Z'))(h2:dq S Z'=some qs):dq ((a,d)::S) Z=some (q++qs):=by
 rw[dq,h1];simp only;rw[h2]
theorem Eb{S:List bH}(h:dq ((a,d)::S) Z=some rs):∃q Z' qs,jP a d Z=some (q,Z')/\dq S Z'=some qs/\rs=q++qs:=by
 rw[dq]at h;split at h
 ·cases h
 ·rename_i q Z' h1;split at h
  ·cases h
  ·rename_i qs h2;cases h;exact⟨q,Z',qs,h1,h2,rfl⟩
theorem Wq(h:dq [] Z=some rs):Z=[]/\rs=[]:=by
 rw[dq]at h;split at h
 ·rename_i hz;cases h;exact⟨hz,rfl⟩
 ·cases h
theorem Nj{a:Nat}{c:ad}(hc:c≠[]):∀ {S:List bH} {Z:au} {rs:bg},dq S Z=some rs->dq (S++[(a,c)]) (Z++[c.length])=some (rs++[gw a 0 c])
 | [],Z,rs,h=>by
  obtain⟨rfl,rfl⟩:=Wq h;exact Hv (S:=[]) (q:=[gw a 0 c]) (qs:=[]) (Of hc) (by rw[dq,if_pos rfl])
 | (x,d)::S,Z,rs,h=>by
  obtain⟨q,Z',qs,h1,h2,rfl⟩:=Eb h;rw[aL,bJ];exact Hv (Is _ h1) (Nj hc h2)
theorem Wp{a:Nat}{d c:ad}(hc:c≠[]):∀ {S:List bH} {Z:au} {rs:bg},dq (S++[(a,d)]) Z=some rs->dq (S++[(a,d++c)]) (Z++[c.length])=some (rs++[gw (a+d.length) 0 c])
 | [],Z,rs,h=>by
  obtain⟨q,Z',qs,h1,h2,rfl⟩:=Eb h;obtain⟨rfl,rfl⟩:=Wq h2;rw[cm,aA];have:=Hv (S:=[]) (Oe hc h1) (by rw[dq,if_pos rfl]);rwa [cm]at this
 | (x,e)::S,Z,rs,h=>by
  obtain⟨q,Z',qs,h1,h2,rfl⟩:=Eb h;rw[aL,bJ];exact Hv (Is _ h1) (Wp hc h2)
def mP(S:List bH):Prop:=∀s∈S,s.1<65536/\s.2≠[]/\s.2.length+s.1<=65536
theorem Uu{S:List bH}{c:ad}(h:mP S)(hc:c≠[])(ha:a+c.length<=65536):mP (oZ a c S):=by
 have hcl:0<c.length:=List.length_pos_iff.2 hc;rcases yC S with rfl|⟨P,x,rfl⟩
 ·intro s hs;rw[HO]at hs;simp only[cv]at hs;subst hs;exact⟨by dsimp only;omega,hc,by dsimp only;omega⟩
 ·rw[LA]at h |-;rw[BF];split
  ·rename_i he;intro s hs;rcases cq.1 hs with hs|hs
   ·exact h s (by simp[hs])
   ·simp only[cv]at hs;subst hs;have:=h x ai;refine⟨this.1,by simp[this.2.1],?_⟩;simp only[aq];omega
  ·intro s hs;rcases cq.1 hs with hs|hs
   ·exact h s hs
   ·simp only[cv]at hs;subst hs;exact⟨by dsimp only;omega,hc,by dsimp only;omega⟩
theorem aiy{S:List bH}{c:ad}(hc:c≠[])(h:dq S Z=some rs):dq (oZ a c S) (Z++[c.length])=some (rs++[gw a 0 c]):=by
 rcases yC S with rfl|⟨P,x,rfl⟩
 ·exact Nj hc h
 ·rw[LA]at h |-;rw[BF];split
  ·rename_i he;rw[<-he];exact Wp hc h
  ·exact Nj hc h
theorem aiC{S:List bH}(hS:mP S)(h:dq S []=some rs):S=[]:=by
 cases S with
 | nil=>rfl
 | cons x S =>
  obtain⟨a,d⟩:=x;obtain⟨q,Z',qs,h1,_,_⟩:=Eb h;rw[BX (hS (a,d) ai).2.1]at h1;cases h1
theorem MU(c:UInt8):UInt8.ofNat c.toNat=c:=A2
theorem T9(h:kB raw):raw=gw (jm raw) (b8 raw 3) (la raw)/\∀k,b8 raw 3=k->raw=gw (jm raw) k (la raw):=by
 have key:raw=gw (jm raw) (b8 raw 3) (la raw):=by
  obtain⟨h1,h2,h3⟩:=h;match raw,h1,h2,h3 with
  | x0::x1::x2::x3::t,h1,h2,h3 =>
   have e0:b8 (x0::x1::x2::x3::t) 0=x0.toNat:=rfl;have e3:b8 (x0::x1::x2::x3::t) 3=x3.toNat:=rfl;have ea:jm (x0::x1::x2::x3::t)=256*x1.toNat+x2.toNat:=rfl;have ec:la (x0::x1::x2::x3::t)=t.take x0.toNat:=rfl;rw[e0]at h2;rw[e3,ea,ec];simp only[av]at h2;obtain⟨n,hn⟩:∃n,n=x0.toNat:=⟨_,rfl⟩
   rw[<-hn]at h2 |-;have l1:=x1.toNat_lt;have l2:=x2.toNat_lt;have ht:t=t.take n++[t[n]'aa]:=by
    have:=eN n t;conv=>lhs;rw[<-this]
    rw[j4 aa,List.drop_of_length_le aa]
   obtain⟨y,hy⟩:∃y,y=t[n]'aa:=⟨_,rfl⟩
   rw[<-hy]at ht;obtain⟨c,hc⟩:∃c,c=t.take n:=⟨_,rfl⟩
   rw[<-hc]at ht |-;have hcl:c.length=n:=by rw[hc];simp;omega
   have hd:vW (256*x1.toNat+x2.toNat) x3.toNat c=[x0,x1,x2,x3]++c:=by
    unfold vW;rw[hcl,hn,MU,MU,show(256*x1.toNat+x2.toNat)/256=x1.toNat by omega,MU];have:UInt8.ofNat (256*x1.toNat+x2.toNat)=x2:=by
     apply eF.1;rw[jl];omega
    rw[this]
   have hs:j7 (x0::x1::x2::x3::t)=j7 ([x0,x1,x2,x3]++c)+y.toNat:=by
    rw[ht];have:j7 (([x0,x1,x2,x3]++c)++[y])=j7 ([x0,x1,x2,x3]++c)+j7 [y]:=UP _ _;rw[show x0::x1::x2::x3::(c++[y])=([x0,x1,x2,x3]++c)++[y]from rfl,this];rfl
   rw[hs]at h3;have ly:=y.toNat_lt;unfold gw yW;rw[hd,ht];have:UInt8.ofNat (256-j7 ([x0,x1,x2,x3]++c)%256)=y:=by
    apply eF.1;rw[jl];omega
   rw[this];rfl
 exact⟨key,λk hk=>by rw[<-hk];exact key⟩
structure WO(S:List bH)(Z:au)(qs rs:bg):Prop where
 ex:∃init,rs=init++[gw 0 1 []]/\dq S Z=some (qs++init)/\Z.length=qs.length+init.length
 seg:mP S
 sz:∀n∈Z,1<=n/\n<=255
theorem PR{S':List bH}{Z':au}:∀ {rs:bg} {S:List bH} {Z:au} {qs:bg},dq S Z=some qs->Z.length=qs.length->mP S->(∀n∈Z,1<=n/\n<=255)->(∀r∈rs,kB r)->rV S Z rs=some (S',Z')->WO S' Z' qs rs
 | [],S,Z,qs,_,_,_,_,_,h=>by rw[rV]at h;cases h
 | raw::rs,S,Z,qs,hw,hl,hS,hZ,hr,h=>by
  have hok:=hr raw ai;by_cases hrs:rs=[]
  ·subst hrs;rw[I3]at h;split at h
   ·rename_i he;cases h;obtain⟨e1,e2,e3⟩:=he;have:=(T9 hok).2 1 e3;rw[e2,show la raw=[]by unfold la;rw[e1,List.take_zero]]at this;refine⟨⟨[],by rw[this];rfl,by rw[cm];exact hw,by simpa using hl⟩,hS,hZ⟩
   ·cases h
  ·rw[I2 _ _ _ hrs]at h;split at h
   ·rename_i hd;obtain⟨d1,d2,d3⟩:=hd;have hcl:=TT hok;have tG:la raw≠[]:=by
     intro e;rw[e]at hcl;simp at hcl;omega
    have e:=(T9 hok).2 0 d1;have Rn:=aiy (a:=jm raw) tG hw;rw[hcl,<-e]at Rn;have hb:b8 raw 0<=255:=Nat.le_of_lt_succ (raw[0]?.getD 0).toNat_lt;obtain⟨⟨init,i1,i2,i3⟩,i4,i5⟩:=PR Rn (by simp[hl]) (Uu hS tG aa) (λn hn=>by
     rcases cq.1 hn with hn|hn
     ·exact hZ n hn
     ·obtain rfl:=cv.1 hn;exact⟨Nat.pos_of_ne_zero d2,hb⟩) (λr hr2=>hr r (by simp[hr2])) h
    refine⟨⟨raw::init,by rw[i1];rfl,by rw[i2,bJ];rfl,by simp only[aq,av,aI]at i3 |-;omega⟩,i4,i5⟩
   ·cases h
structure Eg(fl:Nat)(l:ad)(S:List bH)(Z:au):Prop where
 ex:∃init,l=(init++[gw 0 1 []]).flatMap (gX fl)/\dq S Z=some init/\Z.length=init.length
 seg:mP S
 sz:∀n∈Z,1<=n/\n<=255
 len:2*Z.length<=l.length
theorem RR(fl:Nat):∀rs:bg,2*rs.length<=(rs.flatMap (gX fl)).length
 | []=>by simp
 | r::rs=>by
  have:=RR fl rs;have:=(yh fl r).1;rw[bz,aq,av];omega
theorem QH{S:List bH}(h:xH fl l=some (S,Z)):Eg fl l S Z:=by
 unfold xH at h;split at h
 ·cases h
 ·rename_i rs hr;obtain⟨r1,r2⟩:=vX.1 hr;obtain⟨⟨init,i1,i2,i3⟩,i4,i5⟩:=PR (qs:=[]) (by rw[dq,if_pos rfl]) rfl (by unfold mP;simp) ai r2 h;rw[aA]at i2;simp only[aI,dU]at i3;refine⟨⟨init,by rw[<-i1];exact r1,i2,i3⟩,i4,i5,?_⟩;have:=RR fl rs;rw[<-r1,i1,aq]at this;omega
theorem aaV{S:List bH}(h:Eg fl l S Z):pq fl S (j8 S Z)=some l:=by
 obtain⟨init,i1,i2,i3⟩:=h.ex;have e:(if j8 S Z=[]then iG S else j8 S Z)=Z:=by
  unfold j8;by_cases hu:Z=iG S
  ·rw[if_pos hu,if_pos rfl,hu]
  ·rw[if_neg hu];by_cases hz:Z=[]
   ·exfalso;rw[hz]at i2;have:=aiC h.seg i2;rw[this]at hu;exact hu (by rw[hz];rfl)
   ·rw[if_neg hz]
 unfold pq;rw[e,i2,i1]
theorem QK{S:List bH}(h:mP S):kn (od S)=some S:=by
 unfold kn;rw[if_pos rfl];show allM nK (S.map wj)=some S;refine zx ai λi x y hx hy=>?_;rw[eu,hy]at hx;cases hx;obtain⟨h1,h2,h3⟩:=h y (List.mem_of_getElem? hy);unfold nK;rw[if_pos ⟨rfl,rfl⟩];simp only;rw[if_pos ⟨by trivial,by trivial,by show(0:Int)<=(y.1:Int);omega,by show(y.1:Int)<65536;omega,h2,by show(y.2.length:Int)<=65536-(y.1:Int);omega⟩];rfl
theorem QE{l:ad}{x:ar×ad}:∀ {n:Nat},Fl l n=some x->∃fl,fl<4/\km fl l=some x
 | 0,h=>by cases h
 | n+1,h=>by
  unfold Fl at h;split at h
  ·rename_i y hy;cases h;exact⟨3-n,aa,hy⟩
  ·exact QE h
theorem aaU(h:km fl l=some (v,r)):∃S Z,xH fl l=some (S,Z)/\(bI (od S)).1=0/\v=od S/\r=iS fl (j8 S Z):=by
 unfold km at h;split at h
 ·cases h
 ·rename_i S Z hr;split at h
  ·rename_i hv;cases h;exact⟨S,Z,hr,hv,rfl,rfl⟩
  ·cases h
theorem QM(h:gL l=some (v,r)):∃fl S Z,fl<4/\Eg fl l S Z/\(bI (od S)).1=0/\v=od S/\r=iS fl (j8 S Z):=by
 obtain⟨fl,hf,h1⟩:=QE h;obtain⟨S,Z,h2,h3,h4,h5⟩:=aaU h1;exact⟨fl,S,Z,hf,QH h2,h3,h4,h5⟩
theorem UR{S:List bH}(h:Eg fl l S Z):(j8 S Z).length<=Z.length/\∀n∈j8 S Z,1<=n/\n<=255:=by
 unfold j8;split
 ·exact⟨cu _,ai⟩
 ·exact⟨aK _,h.sz⟩
theorem aaT{S:List bH}(h1:kn v=some S)(h2:kS b=some (fl,Z))(h3:pq fl S Z=some o)(h4:o.length<=1000)(h5:gL o=some (v,b)):jU v b=some o:=by
 unfold jU;rw[h1];simp only;rw[h2];simp only;rw[h3];simp only;rw[if_pos ⟨h4,h5⟩]
theorem aaR{S:List bH}(h1:kn v=some S)(h2:kS b=some (fl,Z))(h3:pq fl S Z=some o)(h4:o.length<=1000->gL o≠some (v,b)):jU v b=none:=by
 unfold jU;rw[h1];simp only;rw[h2];simp only;rw[h3];simp only;rw[if_neg λq=>h4 q.1 q.2]
theorem aaQ{S:List bH}(h1:kn v=some S)(h2:kS b=none):jU v b=none:=by
 unfold jU;rw[h1];simp only;rw[h2]
theorem aaS{S:List bH}(h1:kn v=some S)(h2:kS b=some (fl,Z))(h3:pq fl S Z=none):jU v b=none:=by
 unfold jU;rw[h1];simp only;rw[h2];simp only;rw[h3]
theorem aa4(hl:l.length<=1000)(h:gL l=some (v,r)):jU v r=some l:=by
 obtain⟨fl,S,Z,hf,F,h3,h4,h5⟩:=QM h;have hz:=UR F;have:=F.len;unfold jU;rw[h4,QK F.seg];simp only;rw[h5,QG hf aa hz.2];simp only;rw[aaV F];simp only;rw[if_pos ⟨hl,by rw[h,h4,h5]⟩]
theorem Lh(hl:Z.length<=1000)(hz:∀n∈Z,n<=255):(bY aM (ints Z)).length<=10010:=by
 have:=vI (f:=aM) (m:=10) (l:=ints Z) (by simp;omega) λx hx=>by
  obtain⟨n,hn,rfl⟩:=cG.1 hx;have:=hz n hn;exact fj aa aa
 simp only[bu]at this;omega
theorem afE(hf:fl<4)(hl:Z.length<=1000)(hz:∀n∈Z,n<=255):(iS fl Z).length<=10020:=by
 have h1:=Lh hl hz;have h2:=fj (n:=(fl:Int)) aa aa;unfold iS;split
 ·simp
 ·rw[aq];omega
theorem aij{s:bH}(h:s.1<65536/\s.2≠[]/\s.2.length+s.1<=65536):VB 1048576 (wj s) :=
 .mk (j1 4) (j1 0) (cu _) (by show 2<=_;omega) (by
  intro x hx;simp only[bB,pQ,or_false]at hx;rcases hx with rfl|rfl<;>decide) (by show 2<=_;omega) (by
  intro x hx;simp only[bB,pQ,or_false]at hx;rcases hx with rfl|rfl
  ·exact Bl ⟨aa,aa⟩
  ·exact wF aa)
theorem Wb{S:List bH}(h:mP S)(hl:S.length<=1000000):VB 1048576 (od S) :=
 .mk (j1 3) (j1 0) (cu _) (cu _) ai (by show(S.map wj).length<=_;simp;omega) (by
  intro x hx;obtain⟨s,hs,rfl⟩:=cG.1 (show x∈S.map wj from hx);exact aij (h s hs))
theorem Ni:∀ {S:List bH} {Z:au} {rs:bg},mP S->dq S Z=some rs->S.length<=rs.length
 | [],_,_,_,_=>cu _
 | (a,d)::S,Z,rs,hS,h=>by
  obtain⟨q,Z',qs,h1,h2,rfl⟩:=Eb h;have:=Ni (λs hs=>hS s (by simp[hs])) h2;have hd:=(hS (a,d) ai).2.1;have hq:1<=q.length:=by
   cases Z with
   | nil=>rw[BX hd]at h1;cases h1
   | cons n Z =>
    rw[wZ hd]at h1;split at h1
    ·split at h1
     ·cases h1
     ·cases h1;simp
    ·cases h1
  simp only[aq,av];omega
theorem JG(hl:b.length<=1000)(h:gL b=some (v,r)):VB 1048576 v/\(bI v).1=0/\(kn v).isSome=true/\jU v r=some b/\r.length<=100000000/\∃ls,QF r=some ls/\ls.length<=4/\(ls=[]↔r=[]):=by
 have bW:=aa4 hl h;obtain⟨fl,S,Z,hf,F,h3,h4,h5⟩:=QM h;obtain⟨z1,z2⟩:=UR F;have hlen:=F.len;obtain⟨init,i1,i2,i3⟩:=F.ex;have tB:=Ni F.seg i2;refine⟨by rw[h4];exact Wb F.seg aa,by rw[h4];exact h3,by rw[h4,QK F.seg];rfl,bW,?_,?_⟩
 ·rw[h5];have:=afE hf (Z:=j8 S Z) aa λn hn=>(z2 n hn).2;omega
 ·unfold QF;rw[h5,QG hf aa z2];refine⟨_,rfl,by have:=acn fl (j8 S Z).length;omega,?_⟩;rw[aco hf,afF,List.length_eq_zero_iff]
theorem QL(l:ad):gL l=match km 0 l with
  | some x=>some x
  | none=>match km 1 l with
   | some x=>some x
   | none=>match km 2 l with
    | some x=>some x
    | none=>match km 3 l with
     | some x=>some x
     | none=>none:=rfl
theorem aa2{f:Nat}(hf:f<4)(hno:∀g,g<f->km g l=none){x:ar×ad}(h:km f l=some x):gL l=some x:=by
 rw[QL];obtain rfl|rfl|rfl|rfl:f=0\/f=1\/f=2\/f=3:=aa
 ·rw[h]
 ·rw[hno 0 aa,h]
 ·rw[hno 0 aa,hno 1 aa,h]
 ·rw[hno 0 aa,hno 1 aa,hno 2 aa,h]
theorem aa1(h:∀g,g<4->km g l=none):gL l=none:=by
 rw[QL,h 0 aa,h 1 aa,h 2 aa,h 3 aa]
theorem acX(a k:Nat)(c:ad):gw a k c=UInt8.ofNat c.length::UInt8.ofNat (a/256)::UInt8.ofNat a::UInt8.ofNat k::(c++[yW (vW a k c)]):=by
 unfold gw vW;simp
theorem VQ:∀(m n:Nat),n<=m->(gG n).sum=n/\∀k∈gG n,1<=k/\k<=16
 | 0,n,h=>by
  obtain rfl:n=0:=aa;rw[M8];exact⟨rfl,ai⟩
 | m+1,n,h=>by
  by_cases h0:n=0
  ·subst h0;rw[M8];exact⟨rfl,ai⟩
  by_cases h16:n<=16
  ·rw[M7 h0 h16];exact⟨ai,by simp;omega⟩
  ·rw[M5 aa];obtain⟨h1,h2⟩:=VQ m (n-16) aa;refine⟨by rw[List.sum_cons,h1];omega,λk hk=>?_⟩;rcases bB.1 hk with rfl|hk
   ·omega
   ·exact h2 k hk
theorem aaY:kS []=some (0,[]):=by unfold kS;rw[if_pos rfl]
def yy(rs:bg):Option bg->Option bg
 | none=>none
 | some qs=>some (rs++qs)
theorem aee(o:Option bg):yy [] o=o:=by cases o<;>rfl
theorem aed(rs qs:bg)(o:Option bg):yy rs (yy qs o)=yy (rs++qs) o:=by
 cases o with
 | none=>rfl
 | some x=>exact congrArg some (bJ ..).symm
theorem aiA(a:Nat)(T:List bH)(Z:au):dq ((a,[])::T) Z=dq T Z:=by
 rw[dq,zK];simp only;cases dq T Z<;>rfl
theorem aiE(T:List bH)(h:d≠[]):dq ((a,d)::T) []=none:=by rw[dq,BX h]
theorem aiz(T:List bH)(Z:au)(h:d≠[])(hn:d.length<n):dq ((a,d)::T) (n::Z)=none:=by rw[dq,wZ h,if_neg aa]
theorem aiD(T:List bH)(Z:au)(h:d≠[])(hn:n<=d.length):dq ((a,d)::T) (n::Z)=yy [gw a 0 (d.take n)] (dq ((a+n,d.drop n)::T) Z):=by
 rw[dq,dq,wZ h,if_pos hn];cases jP (a+n) (d.drop n) Z with
 | none=>rfl
 | some p =>
  obtain⟨q,Z'⟩:=p;simp only;cases dq T Z'<;>rfl
theorem aiB(Z:au):dq [] Z=if Z=[]then some []else none:=by rw[dq]
theorem KI(a k:Nat)(c:ad):(gw a k c).length=c.length+5:=by rw[acX];simp
theorem KA(fl:Nat):∀ {rs:bg},(∀r∈rs,r.length<=260)->(rs.flatMap (gX fl)).length<=rs.length*530
 | [],_=>by simp
 | r::rs,h=>by
  have h1:=KA fl (rs:=rs) λx hx=>h x (by simp[hx]);have h2:=h r ai;have h3:=(yh fl r).2;rw[bz,aq,av];omega
theorem Fo(fl:Nat)(S:List bH)(Z:au):pq fl S Z=(dq S (if Z=[]then iG S else Z)).map λrs=>rs.flatMap (gX fl)++gX fl (gw 0 1 []):=by
 unfold pq;cases dq S (if Z=[]then iG S else Z)with
 | none=>rfl
 | some rs=>simp
theorem aaO(lo:Bool)(l:ad)(c:UInt8):dF lo (l++[c])=dF lo l++[ft lo (c.toNat/16),ft lo (c.toNat%16)]:=by
 unfold dF;rw[bT];rfl
theorem aif{r:ar}(h:(bI v).1=0)(hr:r∈v.parts)(h4:r.kind=4):r.names.length=r.parts.length:=by
 have:=(Bk h).2 r hr;obtain⟨_,hf,_⟩:=nB this;unfold ig at hf;omega
theorem Ut{r:ar}(h:¬(r.kind=4/\r.names=[yN,yO])):nK r=none:=by unfold nK;rw[if_neg h]
theorem agi{r a d:ar}(h:r.kind=4/\r.names=[yN,yO])(hp:r.parts=[a,d]):nK r=if a.kind=1/\d.kind=2/\0<=a.num/\a.num<65536/\d.bytes≠[]/\(d.bytes.length:Int)<=65536-a.num then some (a.num.toNat,d.bytes)else none:=by
 unfold nK;rw[if_pos h,hp]
theorem agh{r:ar}{s:bH}(h:nK r=some s):s.1<65536/\s.2≠[]/\s.2.length+s.1<=65536:=by
 unfold nK at h;split at h
 ·split at h
  ·rename_i a d _;split at h
   ·rename_i hc;cases h;obtain⟨_,_,c1,c2,c3,c4⟩:=hc;exact⟨by dsimp only;omega,c3,by dsimp only;omega⟩
   ·cases h
  ·cases h
 ·cases h
theorem aa0{S:List bH}(h:kn v=some S):mP S/\S.length=v.parts.length:=by
 unfold kn at h;split at h
 ·obtain⟨h1,h2⟩:=o0 h;refine⟨λs hs=>?_,h1⟩;obtain⟨i,hi,rfl⟩:=List.getElem_of_mem hs;exact agh (h2 i v.parts[i] S[i] (a8 aa) (a8 hi))
 ·cases h
abbrev wH:=Int×ar×ad
abbrev w8(k:Int)(x:ar×ad):wH:=(k,x.1,x.2)
def iJ(l:ad):wH:=match fU l with
 | some x=>w8 3 x
 | none=>match gk l with
  | some x=>w8 2 x
  | none=>match gL l with
   | some x=>w8 6 x
   | none=>match gE l with
    | some x=>w8 4 x
    | none=>match gO l with
     | some x=>w8 5 x
     | none=>match iU l with
      | some x=>w8 1 x
      | none=>(0,.mk 2 0 l [] [],[])
def wI(x:wH)(l:ad):Prop:=(x.1=3/\nM x.2.1 x.2.2=some l)\/(x.1=2/\mI x.2.1 x.2.2=some l)\/(x.1=6/\jU x.2.1 x.2.2=some l)\/(x.1=4/\lq x.2.1 x.2.2=some l)\/(x.1=5/\l4 x.2.1 x.2.2=some l)\/(x.1=1/\nO x.2.1 x.2.2=some l)\/(x.1=0/\x.2.1.bytes=l)
theorem YW(hl:l.length<=1000):wI (iJ l) l/\VB 1048576 (iJ l).2.1/\(iJ l).2.2.length<=100000000:=by
 unfold iJ;cases h1:fU l with
 | some x =>
  obtain⟨a,_,_,b,c,_⟩:=UM hl h1;exact⟨.inl ⟨rfl,b⟩,a,c⟩
 | none =>
 cases h2:gk l with
 | some x =>
  obtain⟨a,_,_,b,c,_⟩:=S4 hl h2;exact⟨.inr (.inl ⟨rfl,b⟩),a,c⟩
 | none =>
 cases h3:gL l with
 | some x =>
  obtain⟨a,_,_,b,c,_⟩:=JG hl h3;exact⟨.inr (.inr (.inl ⟨rfl,b⟩)),a,c⟩
 | none =>
 cases h4:gE l with
 | some x =>
  obtain⟨a,_,_,b,c,_⟩:=MF hl h4;exact⟨.inr (.inr (.inr (.inl ⟨rfl,b⟩))),a,c⟩
 | none =>
 cases h5:gO l with
 | some x =>
  obtain⟨a,_,_,b,c,_⟩:=MP hl h5;exact⟨.inr (.inr (.inr (.inr (.inl ⟨rfl,b⟩)))),a,c⟩
 | none =>
 cases h6:iU l with
 | some x =>
  obtain⟨a,_,_,b,c,_⟩:=Vz hl h6;exact⟨.inr (.inr (.inr (.inr (.inr (.inl ⟨rfl,b⟩))))),a,c⟩
 | none=>exact⟨.inr (.inr (.inr (.inr (.inr (.inr ⟨rfl,rfl⟩))))),wF aa,cu _⟩
theorem wI.inj{x:wH}{a:ad}(h:wI x a)(k:wI x b):a=b:=by
 obtain⟨n,v,r⟩:=x;unfold wI at h k;dsimp only at h k
 rcases h with⟨h0,h⟩|⟨h0,h⟩|⟨h0,h⟩|⟨h0,h⟩|⟨h0,h⟩|⟨h0,h⟩|⟨h0,h⟩<;>rcases k with⟨k0,k⟩|⟨k0,k⟩|⟨k0,k⟩|⟨k0,k⟩|⟨k0,k⟩|⟨k0,k⟩|⟨k0,k⟩<;>first
  | omega
  | exact kX (h.symm.trans k)
  | exact h.symm.trans k
theorem wI.i64{x:wH}(h:wI x l):dx x.1:=by
 rcases h with⟨h,_⟩|⟨h,_⟩|⟨h,_⟩|⟨h,_⟩|⟨h,_⟩|⟨h,_⟩|⟨h,_⟩<;>rw[h]<;>decide
theorem Rel.Ip(hT:bK P T){t t2 ty e:TypeId}{d de:TD}(hd:T[t]?=some d)(hu:d.under=.slice e)(hde:T[e]?=some de)(hsz:de.size=1)
  {w0 V0 V w:ae} {own:bU} (H:Rel w0 V0 own V w) {i b:Nat} {c:aD} {e':TypeId} (hi:own[i]?=some (.ax b c e')) {o dl dc n:Nat} {x:Sl} {ys:aD} (hx:Cells w x.a ys) (hn:n=min x.len dl) (hy:ys.length=n) (hn0:0<n) (hfit:o+n<=c.length) (h1:∀u∈ys,u.oneCell'=true)
  {k:ao->ae->Prop} (hk:∀w',Rel w0 V0 (own.set i (.ax b (c.take o++ys++c.drop (o+n)) e')) V w'->k (iv n) w'):bo P (Builtin.copy_ #[t,t2] ty #[.slice (some ⟨b,o,none⟩) dl dc,x.v]) w k:=by
 have tI:=hT t d hd;obtain⟨j,hj,hj1,iB,hj3⟩:=(hT e de hde).info;have ht:P.underlying t=some (.slice e):=by
  obtain⟨d0,q1,q2⟩:=tI.under;rw[hu]at q2;cases d0<;>first|(simp_all[c8];done)|(simp only[c8]at q2;split at q2<;>cases q2)
 have hb:=H.rM hi;have hne:ys≠[]:=λh=>by rw[h]at hy;simp at hy;omega
 have hpl:=hx.1 hne;have sv:x.v=.slice (some ⟨bD x.a,bw x.a,none⟩) x.len x.cap:=by
  show Value.slice x.a x.len x.cap=_;conv=>lhs;rw[hpl]
 rw[sv];have dS:=run_copy_row (P:=P) w t t2 ty e b o dl dc ⟨bD x.a,bw x.a,none⟩ x.len x.cap c.toArray e' ys ht (by rw[hj];exact congrArg some (hj1.trans hsz)) hb (by rw[hy,hn]) (λj v hj=>by rw[addr_add];exact hx.2 j v hj) (by rw[List.size_toArray];omega) h1;rw[hy]at dS;refine .of dS (hk _ (H.M4 hi ⟨?_⟩));have hlt:b<w.heap.size:=(jG.1 hb).1;have gd:w.heap[b]=.cells c.toArray e' (0,0):=(jG.1 hb).2;unfold World.setRow;congr 1;apply Array.ext_getElem?;intro m;rw[Array.getElem?_modify,Array.getElem?_setIfInBounds];by_cases hm:b=m
 ·subst hm;rw[if_pos rfl,if_pos rfl,if_pos hlt,Array.getElem?_eq_getElem hlt,gd];rfl
 ·rw[if_neg hm,if_neg hm]
theorem Rel.Iq(hT:bK P T){t t2 ty e:TypeId}{d de:TD}(hd:T[t]?=some d)(hu:d.under=.slice e)(hde:T[e]?=some de)(hsz:de.size=1)
  {w0 V0 V w:ae} {own:bU} (H:Rel w0 V0 own V w) {i b:Nat} {c:aD} {e':TypeId} (hi:own[i]?=some (.ax b c e')) {o dl dc:Nat} {q:Option Addr} {x:Sl} {l:ad} (hx:ay V x l) (hdl:l.length<=dl) (hfit:o+l.length<=c.length) (hq:l.length≠0->q=some ⟨b,o,none⟩)
  {k:ao->ae->Prop} (hk:∀w',Rel w0 V0 (own.set i (.ax b (c.take o++l.flatMap aE++c.drop (o+l.length)) e')) V w'->k (iv l.length) w'):bo P (Builtin.copy_ #[t,t2] ty #[.slice q dl dc,x.v]) w k:=by
 have hlen:=hx.len;have cJ:(l.flatMap aE).length=l.length:=by rw[fc,bu]
 by_cases h0:l.length=0
 ·have hl:l=[]:=bL h0;obtain⟨j,hj,hj1,iB,hj3⟩:=(hT e de hde).info;have ht:P.underlying t=some (.slice e):=by
   obtain⟨d0,q1,q2⟩:=(hT t d hd).under;rw[hu]at q2;cases d0<;>first|(simp_all[c8];done)|(simp only[c8]at q2;split at q2<;>cases q2)
  have dS:=run_copy_none (P:=P) w t t2 ty e q x.a dl dc x.len x.cap ht (by rw[hj];exact congrArg some (hj1.trans hsz)) (by rw[hlen,h0];simp);refine .of dS ?_;subst hl;have hs:own.set i (.ax b (c.take o++([]:ad).flatMap aE++c.drop (o+([]:ad).length)) e')=own:=by
   rw[show c.take o++([]:ad).flatMap aE++c.drop (o+([]:ad).length)=c by simp];obtain⟨lF,oe⟩:=cW.1 hi;rw[<-oe,List.set_getElem_self]
  exact hk w (by rw[hs];exact H)
 ·rw[hq h0];have:=Rel.Ip hT hd hu hde hsz H hi (o:=o) (dl:=dl) (dc:=dc) (n:=l.length) (ty:=ty) (t2:=t2) (k:=k) (hx.up H.data).cells (by rw[hlen];omega) cJ aa hfit EU (by
   intro w' H';exact hk w' H')
  exact this
theorem Io{E A:aD}{z:ao}{o:Nat}(ho:E.length=o)(h:A.length<=n):(E++List.replicate n z).take o++A++(E++List.replicate n z).drop (o+A.length)=E++A++List.replicate (n-A.length) z:=by
 rw[Tr ho,<-oC,Ly ho,Tv]
theorem Xr:bN .and .u64 1 4294967295=1:=by decide +kernel
theorem Xs:∀y:Nat,y<256->bN .and .u64 (y:Int) 4294967295=(y:Int):=by decide +kernel
section
variable{V W:ae}
theorem ac2(hy:y<256)(w:ae):aC 355 [.int .u64 1,.int .u64 (y:Int)] w λv w'=>v=.tuple #[.int .u64 0,.int .u64 (y:Int)]/\w=w':=by
 refine eV Tryz.func355 51 [0,1,4,5,6,7,8,9,10,11,12,13] ?_;refine wk ?_;have p32:(2:Int)^min (Int.toNat 32) IntKind.u64.bits=4294967296:=ag;have e0:(y:Int)/4294967296=0:=aa;have e1:(1:Int)/4294967296=0:=ag;have wz:wr .u64 0=0:=ag;have wy:wr .u64 (y:Int)=y:=by
  show(y:Int)%18446744073709551616=y;omega
 have a0:bN .and .u64 0 4294967295=0:=by decide +kernel
 simp only[p32,Xr,Xs y hy,e0,e1,Int.zero_mul,Int.one_mul,Int.mul_zero,wz,wy,Int.zero_add,Int.add_zero,Int.zero_ediv,a0];exact⟨trivial,trivial⟩
theorem ac3(hy:y<256)(w:ae):aC 329 [.int .u64 1,.int .u64 (y:Int)] w λv w'=>v=.tuple #[.int .u64 0,.int .u64 (y:Int)]/\w=w':=by
 refine eV Tryz.func329 30 [0,1,4,5,6,7,8,9] ?_;refine wk ?_;refine(ac2 hy w).use ?_;rintro v w'⟨rfl,rfl⟩;(repeat ((conv=>whnf);first|refine an ?_|refine H.ce ?_|refine H.db ?_|refine ea ?_|refine ol ?_|fail|refine cT ?_|refine cF ?_|refine cN ?_|refine cM ?_|refine H.lw ?_|refine H.ll ?_));(conv=>whnf)
theorem afA{u z:ao}(h:m<=n):(List.replicate m u++List.replicate (n-m) z).take m++List.replicate (min m (n-m)) u++(List.replicate m u++List.replicate (n-m) z).drop (m+min m (n-m))=List.replicate (m+min m (n-m)) u++List.replicate (n-(m+min m (n-m))) z:=by
 rw[Tr ai,<-oC,Ly ai,List.replicate_append_replicate,Tv];congr 2;omega
theorem afC(hV:Sub V W){s:Sl}{u:UInt8}(hs:ay V s [u]){n:Nat}(h1:1<=n)(hn:n<256):aC 308 [s.v,iv (n:Int)] W λv w'=>∃r:Sl,v=r.v/\Rel W V [.row r 5 1 ((List.replicate n u).flatMap aE)] V w':=by
 have H:=Rel.start hV;have hlen:=hs.len;rw[List.length_singleton]at hlen;refine eV Tryz.func308 48 [0,1,4,5,6,7,8,10,26,37] ?_;refine wk ?_;rw[show wr .u64 ((s.len:Nat):Int)=1 by rw[hlen];rfl,show wr .u64 (n:Int)=(n:Int)by show(n:Int)%18446744073709551616=n;omega];refine(ac3 hn W).use ?_;rintro v w'⟨rfl,rfl⟩;refine wk ?_;refine GY ah rfl rfl rfl rfl rfl rfl aa (by simp;omega) aa λw b lH=>?_;replace H:=H.yr lH;clear lH;simp only[e8]at H |-;refine wk ?_;refine Rel.Ip ah rfl rfl rfl rfl H (i:=0) (n:=1) rfl (hs.up H.data).cells aa rfl ag (by simp;omega) EU ?_;clear H;intro w H;simp only[bC]at H;replace H:=H.bA (c':=List.replicate 1 (bv u)++List.replicate (n-1) (Value.int .u8 0)) (by simp[Tv]);refine wk ?_;refine aY (S:=Nat) ah [0,1,4,5,6,7,10,26] (λm=>[(7,.slice (some ⟨b,0,none⟩) n n),(8,iv m)]) (λm w'=>1<=m/\m<=n/\Rel W V [.ax b (List.replicate m (bv u)++List.replicate (n-m) (Value.int .u8 0)) 5] V w') (λm _=>n-m) 1 ?_;conv=>whnf
 refine⟨sB,⟨aa,h1,H⟩,?_⟩;clear H;rintro m w⟨xQ,hm,H⟩;dsimp only at xQ hm H |-;by_cases hlt:m<n
 ·refine wk ?_;refine dV 9 [] [0,1,2,3,4,5,6,7,8,9] H ?_;clear H;intro w H;refine wk ?_;simp only[e8];rw[show aU (some ⟨b,0,none⟩) m n 1=some ⟨b,m,none⟩by unfold aU;rw[if_neg aa];simp[addr_add]];have hb:=(H.rM (i:=0) rfl).cells;have hc:Cells w (aU (some ⟨b,0,none⟩) 0 n 1) (List.replicate (min m (n-m)) (bv u)):=by
   rw[show aU (some ⟨b,0,none⟩) 0 n 1=some ⟨b,0,none⟩by unfold aU;split<;>simp[addr_add]];refine⟨λ_=>rfl,λj v hj=>hb.2 j v ?_⟩;obtain⟨hj1,iB⟩:=cW.1 hj;rw[A3]at hj1;rw[List.getElem?_append_left (by simp;omega)];rw[List.getElem_replicate]at iB;rw[List.getElem?_replicate,if_pos aa,iB]
  refine Rel.Ip ah rfl rfl rfl rfl H (i:=0) (n:=min m (n-m)) (x:=⟨aU (some ⟨b,0,none⟩) 0 n 1,m-0,n-0⟩) rfl hc (by show min m (n-m)=min (m-0) (n-m);omega) ai aa (by simp;omega) (λu' hu=>by rw[(List.mem_replicate.1 hu).2];rfl) ?_;clear H;intro w H;simp only[bC]at H;rw[afA hm]at H;refine wk ?_;exact⟨sB,sB,m+min m (n-m),sB,⟨aa,aa,H⟩,aa⟩
 ·obtain rfl:m=n:=aa;refine wk ?_;replace H:=H.bA (c':=(List.replicate m u).flatMap aE) (by rw[fc,List.map_replicate];simp);exact⟨⟨some ⟨b,0,none⟩,m,m⟩,rfl,H.fA (n:=m) (sz:=1) (by simp[fc]) (by simp only[maxLen];omega)⟩
theorem ay.one{X:ad}{x:UInt8}(h:ay V q (x::X)):ay V ⟨aU q.a 0 1 1,1,1⟩ [x]:=by
 obtain⟨p,c⟩:=h.aX (g:=bv) (λ_=>rfl) (show 0<(x::X).length by simp);refine⟨rfl,aK _,λ_=>(yV p:Plain (aU q.a 0 1 1)),λj v hj=>?_⟩;show V.cell? ⟨bD (aU q.a 0 1 1),bw (aU q.a 0 1 1)+j,none⟩=some v;rw[yT,yU p ag];cases j with
 | zero=>simp at hj;rw[<-hj];exact c
 | succ j=>simp at hj
structure Xd(W V:ae)(o:fx)(v:ao)(w':ae):Prop where
 ex:∃(V':ae) (r:Sl),Sub V V'/\Rel W V [] V' w'/\(match o with
  | none=>v=.tuple #[r.v,.bool false]
  | some o=>v=.tuple #[r.v,.bool true]/\ay V' r o)
theorem YZ{size:Nat}{A:ad}(h:kK l=(kK o).map (A++·))(hA:size<A.length):oP l size=none:=by
 unfold oP;rw[h];cases kK o with
 | none=>rfl
 | some y =>
  show(if(A++y).length=size/\ik (A++y)=l then some (A++y)else none)=none;rw[if_neg];rw[aq];omega
theorem ah6(hV:Sub V W){s:Sl}{l:ad}(hs:ay V s l)(hl:l.length<=100000){size:Nat}(hm:size<=100000):aC 273 [s.v,iv (size:Int)] W (Xd W V (oP l size)):=by
 have H:=Rel.start hV;have hlen:=hs.len;refine eV Tryz.func273 72 [0,1,4,5,6,7,8,18,25,42] ?_;refine wk ?_;replace H:=H.cb 5 1;refine aY (S:=Sl×ad×Sl×ad) ah [0,1] (λk=>[(6,k.2.2.1.v),(7,k.1.v)]) (λk w'=>ay V k.1 k.2.1/\kK l=(kK k.2.1).map (k.2.2.2++·)/\k.2.1.length<=l.length/\k.2.2.2.length<=size+129/\Rel W V [.row k.2.2.1 5 1 (k.2.2.2.flatMap aE)] V w') (λk _=>k.2.1.length) (s,l,⟨none,0,0⟩,[]) ?_;conv=>whnf
 refine⟨sB,⟨hs,ai,aK _,cu _,H⟩,?_⟩;clear H;rintro⟨q,X,r,A⟩w⟨hq,hd,hX,hA,H⟩;dsimp only at hq hd hX hA H |-;have eW:=hq.len;have CQ:=hq.cap;have hrl:r.len=A.length:=H.gn (i:=0) rfl (λ_=>rfl) ag;by_cases hbig:size<A.length
 ·have abh:=YZ hd hbig;rw[abh];obtain⟨V2,hV2,H,hr⟩:=Rel.aT H (λ_=>rfl) ag;by_cases h0:X.length=0
  all_goals
   refine wk ?_;exact⟨V2,r,hV2,H.sx,rfl⟩
 cases X with
 | nil =>
  rw[aI]at eW;rw[OW]at hd;have hd:kK l=some A:=by rw[hd];simp
  obtain⟨V2,hV2,H,hr⟩:=Rel.aT H (λ_=>rfl) ag;by_cases hz:A.length=size
  ·refine wk ?_;refine(SN H.data hr aa).use ?_;rintro v w⟨r2,rfl,K⟩;(replace H:=Rel.call H K);simp only[cm]at H;obtain⟨V3,aw,H,hr2⟩:=Rel.aT H (λ_=>rfl) ag;refine wk ?_;refine(qv H.data hr2 ((hs.up hV2).up aw)).use ?_;rintro v w⟨rfl,K⟩;(replace H:=H.az K);refine wk ?_;have hu:oP l size=if ik A=l then some A else none:=by
    unfold oP;rw[hd];simp only[hz,true_and]
   rw[hu];by_cases hp:ik A=l
   ·rw[if_pos hp,decide_eq_true hp];exact⟨V3,r,hV2.trans aw,H.sx,rfl,hr.up aw⟩
   ·rw[if_neg hp,decide_eq_false hp];exact⟨V3,r,hV2.trans aw,H.sx,rfl⟩
  ·have hu:oP l size=none:=by
    unfold oP;rw[hd];simp only;rw[if_neg (λh=>hz h.1)]
   rw[hu];refine wk ?_;exact⟨V2,r,hV2,H.sx,rfl⟩
 | cons c R =>
  rw[av]at eW hX;obtain⟨p0,c0⟩:=hq.aX (g:=bv) (λ_=>rfl) (show 0<(c::R).length by simp);rw[pU]at c0;rw[ID]at hd;have Ah:=c.toNat_lt;have hf:=hq.rest (k:=1) ai;rw[A0,mJ]at hf;have cJ:=hf.len;refine wk ?_;by_cases dS:129<=c.toNat/\0<R.length
  ·rw[if_pos dS]at hd;cases R with
   | nil=>simp at dS
   | cons y R =>
    rw[av]at hX eW cJ;have ho:=hf.one;have Fp:=hf.rest (k:=1) ai;rw[A0,mJ]at Fp;rw[List.headD_cons,A0,mJ]at hd;refine wk ?_;rw[show((c.toNat:Nat):Int)-126=((c.toNat-126:Nat):Int)by omega];refine(afC (n:=c.toNat-126) H.data ho aa aa).use ?_;rintro v w⟨r2,rfl,K⟩;(replace H:=Rel.call H K);simp only[aL,aA]at H;refine wk ?_;refine Rel.dD H (i:=0) rfl (by simp only[A3];omega) ?_;clear H;intro r1 w H;simp only[bC]at H;refine wk ?_;exact⟨sB,(_,R,r1,A++List.replicate (c.toNat-126) y),sB,⟨Fp,by rw[hd,Option.map_map];congr 1;funext z;simp,by dsimp only;omega,by simp only[aq,A3];omega,H⟩,by simp only[av];omega⟩
  ·rw[if_neg dS]at hd;by_cases QV:c.toNat<128/\c.toNat<R.length
   ·rw[if_pos QV]at hd;have hh:=hf.head (k:=c.toNat+1) aa;have Fp:=hf.rest (k:=c.toNat+1) aa;refine wk ?_;refine Rel.eJ H (i:=0) rfl hh (by simp only[bb];omega) ?_;clear H;intro r1 w H;simp only[bC]at H;refine wk ?_;exact⟨sB,(_,R.drop (c.toNat+1),r1,A++R.take (c.toNat+1)),sB,⟨Fp,by rw[hd,Option.map_map];congr 1;funext z;simp,by simp only[bd];omega,by simp only[aq,bb];omega,H⟩,by simp only[av,bd];omega⟩
   ·rw[if_neg QV]at hd;have hu:oP l size=none:=by
     unfold oP;rw[hd];rfl
    rw[hu];by_cases h1:129<=c.toNat
    ·refine wk ?_;exact⟨V,⟨none,0,0⟩,Sub.refl _,H.sx,rfl⟩
    by_cases h2:c.toNat<128
    all_goals
     refine wk ?_;exact⟨V,⟨none,0,0⟩,Sub.refl _,H.sx,rfl⟩
end
theorem Pk{P:Program}{e:TypeId}{d:TD}(hd:dv P e d)(hu:d.under=.int .u8){a b:ad}{w:ae}{m:Nat}:∀is:au,(∀i∈is,i<a.length/\i<b.length) ->
  (Op.eqItems (m+1) e 1 ⟨a.map bv⟩ ⟨b.map bv⟩ is).run P w=.ok (decide (∀i∈is,a[i]?=b[i]?)) w
 | [],_=>by simp[Op.eqItems]
 | i::is,h=>by
  obtain⟨h1,h2⟩:=h i ai;have ih:=Pk (w:=w) (m:=m) hd hu is λj hj=>h j (by simp[hj]);have cE:=hd.int hu w;have ha:qN d.under=false:=by rw[hu];rfl
  have p1:=GQ hd ha (l:=a.map bv) (off:=i*1) (v:=bv a[i]) (by simp[h1]) w;have p2:=GQ hd ha (l:=b.map bv) (off:=i*1) (v:=bv b[i]) (by simp[h2]) w;have p3:(Op.equalIn (m+1) e (bv a[i]) (bv b[i])).run P w=.ok (decide (a[i]=b[i])) w:=by
   simp only[Op.equalIn,Sem.run_bind,cE,Result.andThen_ok,if_true,Sem.run_pure];by_cases hab:a[i]=b[i]
   ·simp[hab]
   ·have:¬((a[i].toNat:Int)=(b[i].toNat:Int)):=λhc=>hab (eF.1 aa);simp[hab,this]
  simp only[Op.eqItems,Sem.run_bind,p1,p2,p3,Result.andThen_ok];by_cases hab:a[i]=b[i]
  ·simp only[hab,decide_true,Bool.not_true,vR,if_false];rw[ih];congr 1;refine decide_eq_decide.2 ?_;constructor
   ·intro hh j hj;rcases bB.1 hj with rfl|hj
    ·simp[h1,h2,hab]
    ·exact hh j hj
   ·intro hh j hj;exact hh j (by simp[hj])
  ·simp only[hab,decide_false,Bool.not_false,if_true,Sem.run_pure];congr 1;refine(decide_eq_false λhh=>hab ?_).symm;have:=hh i ai;simpa [h1,h2]using this
theorem af6(hT:bK P T){t e:TypeId}{n:Nat}{d de:TD}(hd:T[t]?=some d)(hu:d.under=.array n e)(hde:T[e]?=some de)(hue:de.under=.int .u8)(hsz:de.size=1){a b:ad}(ha:a.length=n)(hb:b.length=n)(w:ae)(m:Nat) :
  (Op.equalIn (m+2) t (.agg ⟨a.map bv⟩) (.agg ⟨b.map bv⟩)).run P w=.ok (decide (a=b)) w:=by
 have mu:=hT t d hd;have sd:=hT e de hde;obtain⟨d0,q1,q2⟩:=mu.under;have Rj:P.underlying t=some (.array n e):=by
  rw[hu]at q2;cases d0<;>simp_all[c8]<;>(split at q2<;>simp_all)
 obtain⟨i,hi,jW,_⟩:=sd.info;have hc:P.cellsOf e=1:=by simp[Program.cellsOf,hi,jW,hsz]
 rw[run_equalIn_array w (m+1) _ _ Rj hi,hc,Pk sd hue _ (λi hi=>by simp at hi;omega)];congr 1;refine decide_eq_decide.2 ⟨λh=>vP λi=>?_,λh=>by simp[h]⟩;by_cases hin:i<n
 ·exact h i (by simpa using hin)
 ·rw[jk aa,jk aa]
theorem agl(hT:bK P T){t e:TypeId}{n:Nat}{d de:TD}(hg:P.eqGuardType P.depth t=false)(hd:T[t]?=some d)(hu:d.under=.array n e)(hde:T[e]?=some de)(hue:de.under=.int .u8)(hsz:de.size=1){a b:ad}(ha:a.length=n)(hb:b.length=n){x y:Operand}{w:ae}{k:ao->ae->Prop}
  (hk:k (.bool (decide (a=b))) w):bo P (do eqGuard .eql t x y (.agg ⟨a.map bv⟩) (.agg ⟨b.map bv⟩);binOp .eql t (.agg ⟨a.map bv⟩) (.agg ⟨b.map bv⟩)) w k:=by
 refine .of (v:=.bool (decide (a=b))) (w':=w) ?_ hk;rw[Sem.run_bind,run_eqGuard_agg (P:=P) w .eql t x y _ _ hg];simp only[Result.andThen_ok];rw[run_eql_struct,af6 hT hd hu hde hue hsz ha hb w 9998];rfl
abbrev EC(c:bS):aD:=[bv c.1,bv c.2.1,bv c.2.2]
abbrev zH(c:bS):ao:=.agg #[bv c.1,bv c.2.1,bv c.2.2]
abbrev l7:=aB EC
theorem l7.mZ{p:List bS}(h:l7 V s p){i:Nat}(hi:i<p.length):Plain s.a/\V.cell? ⟨bD s.a,bw s.a+i*3,none⟩=some (bv p[i].1)/\V.cell? ⟨bD s.a,bw s.a+i*3+1,none⟩=some (bv p[i].2.1)/\V.cell? ⟨bD s.a,bw s.a+i*3+1+1,none⟩=some (bv p[i].2.2):=by
 obtain⟨p,c⟩:=aB.get h (n:=3) (λ_=>rfl) ag hi;exact⟨p,c 0 _ rfl,c 1 _ rfl,c 2 _ rfl⟩
theorem agm{x y:Operand}{a b:bS}{k:ao->ae->Prop}(hk:k (.bool (decide (a=b))) w):bo Tryz.prog (do eqGuard .eql 327 x y (zH a) (zH b);binOp .eql 327 (zH a) (zH b)) w k:=by
 have e:decide (a=b)=decide (uV a=uV b):=decide_eq_decide.2 ⟨λh=>by rw[h],λh=>by
  simp only[uV,lT,and_true]at h;exact Prod.ext h.1 (Prod.ext h.2.1 h.2.2)⟩
 rw[e]at hk;exact agl (n:=3) (e:=5) (a:=uV a) (b:=uV b) ah aj rfl rfl rfl rfl rfl rfl rfl hk
section
variable{V W:ae}
theorem Kt(hV:Sub V W){s:Sl}{p:List bS}(hs:l7 V s p)(hp:p.length<=100000)(c:bS):aC 278 [s.v,zH c] W λv w'=>v=iv (if c∈p then(ku p c:Int)else -1)/\Rel W V [] V w':=by
 have H:=Rel.start hV;have hlen:=hs.len;refine eV Tryz.func278 19 [0,1,3,4,5,7,8,9,16] ?_;refine wk ?_;refine H.nA ?_;clear H;intro w b3 H;refine wk ?_;refine aY (S:=Nat) ah [0,1,3,7] (λk=>[(8,iv k)]) (λk w'=>k<=p.length/\c∉p.take k/\Rel W V [.ax b3 (EC c) 327] V w') (λk _=>p.length-k) 0 ?_;conv=>whnf
 refine⟨sB,⟨aa,ai,H⟩,?_⟩;clear H;rintro k w⟨hk,hn,H⟩;dsimp only at hk hn H |-;by_cases hlt:k<p.length;rotate_left
 ·rw[bR aa]at hn;rw[if_neg hn];refine wk ?_;exact H.sx
 obtain⟨hpl,g1,g2,g3⟩:=hs.mZ hlt;refine wk ?_;refine dV 4 [] [0,1,2,3,4,5] H ?_;clear H;intro w H;refine wk ?_;refine agm ?_;refine wk ?_;by_cases he:c=p[k]
 ·have hm:c∈p:=he▸cj hlt;rw[if_pos hm,decide_eq_true he];have hpos:ku p c=k:=by
   have hd:=eN k p;rw[j4 hlt,<-he]at hd;have:∀(l:List bS),c∉l->∀r,ku (l++c::r) c=l.length:=by
    intro l;induction l with
    | nil=>intro _ r;simp[ku]
    | cons x l ih =>
     intro h r;simp only[bB,not_or]at h;show(if x=c then 0 else ku (l++c::r) c+1)=_;rw[if_neg (λe=>h.1 e.symm),ih h.2];rfl
   have h2:=this _ hn (p.drop (k+1));rw[hd,bb]at h2;omega
  refine wk ?_;exact⟨by rw[hpos],H.sx⟩
 ·rw[decide_eq_false he];refine wk ?_;refine⟨sB,k+1,sB,⟨aa,?_,H.sx⟩,aa⟩;rw[bZ hlt];simp only[cq,cv,not_or];exact⟨hn,he⟩
theorem YH(hV:Sub V W){s:Sl}{p:List bS}(hs:l7 V s p)(hp:p.length<=100000)(c:bS):aC 271 [s.v,zH c] W λv w'=>v=.bool (decide (c∈p))/\Rel W V [] V w':=by
 have H:=Rel.start hV;refine eV Tryz.func271 9 [0,1,3,4] ?_;refine wk ?_;refine H.nA ?_;clear H;intro w b3 H;refine wk ?_;refine(Kt H.data hs hp c).use ?_;rintro v w⟨rfl,K⟩;(replace H:=H.az K);refine wk ?_;refine⟨congrArg Value.bool (decide_eq_decide.2 ?_),H.sx⟩;by_cases hm:c∈p
 ·rw[if_pos hm];exact⟨λ_=>hm,λ_=>by omega⟩
 ·rw[if_neg hm];exact⟨λh=>by omega,λh=>absurd h hm⟩
structure WQ(W V:ae)(o:Option (List bS×ad))(v:ao)(w':ae):Prop where
 ex:∃(V':ae) (r t:Sl),Sub V V'/\Rel W V [] V' w'/\(match o with
  | none=>v=.tuple #[.slice none 0 0,.slice none 0 0,.bool false]
  | some (p,l)=>v=.tuple #[r.v,t.v,.bool true]/\l7 V' r p/\ay V' t l)
theorem Mq{arr e:TypeId}{a:Option Addr}{len cap:Nat}(h:P.underlying arr=some (.array n e))(hn:n<=len){k:ao->ae->Prop}(hk:k (.pointer a) w):bo P (Instr.arrayAt arr (.slice a len cap)) w k :=
 .of (by simp[Instr.arrayAt,run_underlying h,Nat.not_lt.2 hn]) hk
theorem Yz:∀ {n i:Nat},3*n<=l.length->i<n->(mi (l.take (3*n)))[i]?=some (dJ l i):=by
 intro n i hn hi;rw[N6 (l.take (3*n)) n (by rw[bb];omega),eu,pP hi];simp only[Option.map_some,dJ,z8];rw[LC aa,LC aa,LC aa]
theorem N8(hn:3*n<=l.length)(hk:k<=n):(mi (l.take (3*n))).take k=(List.range k).map (dJ l):=by
 refine vP λi=>?_;by_cases hi:i<k
 ·rw[LC hi,Yz hn aa,eu,pP hi];rfl
 ·rw[jk (by simp;omega),jk (by simp;omega)]
theorem nQ(h:ay V q l){i:Nat}(hi:i<l.length):Plain q.a/\V.cell? ⟨bD q.a,bw q.a+i,none⟩=some (bv (z8 l i)):=by
 obtain⟨p,c⟩:=h.aX (g:=bv) (λ_=>rfl) hi;refine⟨p,?_⟩;rw[c];simp[z8,a8 hi]
theorem Mz{a:Option Addr}(h:Plain a){l m n:Nat}(hm:m≠l):aU a l m n=some ⟨bD a,bw a+l*n,none⟩:=by
 have:=yV h (l:=l) (m:=m) (size:=n);rw[Plain,yT,yU h hm]at this;exact this
theorem T5(hV:Sub V W){s:Sl}{b:ad}(hs:ay V s b)(hl:b.length<=1000000000){f:Nat}(hf:f<32):aC 210 [s.v,iv ((f/16:Nat):Int)] W (WQ W V (kW f b)):=by
 have H:=Rel.start hV;have hlen:=hs.len;have mo:=hs.cap;obtain⟨most,Q0⟩:∃m,m=pF f:=⟨_,rfl⟩
 have ajc:=Di f;refine qo ah Tryz.func210 rfl aj 68 rfl ai [0,1,4,5,6,7,8,9,10,11,13,30,41,42,43,44,57] ?_;refine aP.dH ah ?_;refine wk ?_;refine aP.dH ah ?_;refine wk ?_;refine aP.oH ah (λ_:Unit=>[(0,s.v),(7,iv most)]) (λ_ w'=>w'=W) ?_ ?_
 ·by_cases hd:f/16=1
  ·obtain rfl:most=16:=by rw[Q0];unfold pF;rw[if_pos hd]
   refine wk ?_;exact⟨(),sB,rfl⟩
  ·obtain rfl:most=2:=by rw[Q0];unfold pF;rw[if_neg hd]
   refine wk ?_;exact⟨(),sB,rfl⟩
 rintro _ w rfl;refine aP.go ah ?_;cases b with
 | nil =>
  rw[aI]at hlen;refine wk ?_;exact⟨V,⟨none,0,0⟩,⟨none,0,0⟩,Sub.refl _,H.sx,rfl⟩
 | cons c l =>
  obtain⟨p0,c0⟩:=hs.aX (g:=bv) (λ_=>rfl) (show 0<(c::l).length by simp);rw[pU]at c0;rw[av]at hlen hl;have Ah:=c.toNat_lt;by_cases h1:c.toNat=0
  ·have e:kW f (c::l)=none:=by unfold kW;simp only;rw[if_neg (λh=>by have:=h.1;omega)]
   rw[e];refine wk ?_;exact⟨V,⟨none,0,0⟩,⟨none,0,0⟩,Sub.refl _,H.sx,rfl⟩
  by_cases h2:most<c.toNat
  ·have e:kW f (c::l)=none:=by unfold kW;simp only;rw[if_neg (λh=>by have:=h.2.1;omega)]
   rw[e];refine wk ?_;exact⟨V,⟨none,0,0⟩,⟨none,0,0⟩,Sub.refl _,H.sx,rfl⟩
  have ht:=hs.rest (k:=1) ai;rw[A0,mJ]at ht;have htl:=ht.len;obtain⟨t,Ki⟩:∃t:Sl,t=⟨aU s.a 1 s.cap 1,s.len-1,s.cap-1⟩:=⟨_,rfl⟩
  rw[<-Ki]at ht htl;have Kh:=ht.cap;by_cases h3:3*c.toNat<=l.length;rotate_left
  ·have e:kW f (c::l)=none:=by unfold kW;simp only;rw[if_neg (λh=>h3 h.2.2.1)]
   rw[e];refine wk ?_;exact⟨V,⟨none,0,0⟩,⟨none,0,0⟩,Sub.refl _,H.sx,rfl⟩
  have Ja:1<=c.toNat/\c.toNat<=pF f:=aa;refine wk ?_;rw[show Value.slice (aU s.a (Int.toNat 1) s.cap 1) (s.len-Int.toNat 1) (s.cap-Int.toNat 1)=t.v by rw[Ki];rfl];clear Ki;obtain⟨n,hn⟩:∃n,n=c.toNat:=⟨_,rfl⟩
  rw[<-hn]at Ja h3 |-;have H:=H.cb 327 3;refine aY (S:=Nat×Sl) ah [0,1,7,8,13,30,41,42] (λk=>[(9,k.2.v),(43,iv k.1)]) (λk w'=>k.1<=n/\((List.range k.1).map (dJ l)).Nodup/\Rel w V [.row k.2 327 3 (((List.range k.1).map (dJ l)).flatMap EC)] V w') (λk _=>n-k.1) (0,⟨none,0,0⟩) ?_;conv=>whnf
  refine⟨sB,⟨aa,ai,H⟩,?_⟩;clear H;rintro⟨k,r⟩w'⟨hk,ij,H⟩;dsimp only at hk ij H |-;have hrl:r.len=((List.range k).map (dJ l)).length:=H.gn (i:=0) rfl (λ_=>rfl) ag;rw[bu,qX]at hrl;by_cases hlt:k<n
  ·obtain⟨q0,d0⟩:=nQ ht (i:=3*k) aa;obtain⟨_,d1⟩:=nQ ht (i:=3*k+1) aa;obtain⟨_,d2⟩:=nQ ht (i:=3*k+2) aa;refine wk ?_;refine Mq (n:=3) (e:=5) aj aa ?_;rw[Mz q0 aa,show(3*(k:Int)).toNat*1=3*k by omega];refine wk ?_;refine H.nA ?_;clear H;intro w tg H;refine H.wg ?_;clear H;intro w H;refine(YH (Sub.refl _) (H.eG (i:=1) rfl (λ_=>rfl) ag) (by simp;omega) (dJ l k)).use ?_;rintro v w2⟨rfl,K⟩;replace H:=Rel.ext H K.base;by_cases hc:dJ l k∈(List.range k).map (dJ l)
   ·have e:kW f (c::l)=none:=by
     unfold kW;simp only;rw[if_neg];rintro⟨_,_,_,h4⟩;rw[<-hn]at h4;have h5:=N8 h3 (k:=k+1) aa;have h6:=(h4.sublist (List.take_sublist (k+1) _))
     rw[h5,sK,eZ,Gm]at h6;exact(vU.1 h6).2.2 _ hc _ (cv.2 rfl) rfl
    rw[e,decide_eq_true hc];refine wk ?_;exact⟨V,⟨none,0,0⟩,⟨none,0,0⟩,Sub.refl _,H.sx,rfl⟩
   ·rw[decide_eq_false hc];refine H.wg ?_;clear H;intro _ w H;refine Rel.dI (f:=EC) (l:=(List.range k).map (dJ l)) (x:=dJ l k) ah rfl rfl rfl rfl rfl ag (λ_=>rfl) (by simp[Value.oneCell',bv]) H (by rw[bu,qX];show(k+1)*3<=_;omega) (by rw[bu,qX];omega) ?_;clear H;intro r1 w H;have abc:((List.range (k+1)).map (dJ l)).Nodup:=by
     rw[sK,eZ,Gm,vU];exact⟨ij,ai,λa ha b hb e=>hc (by rw[cv]at hb;rw[<-hb,<-e];exact ha)⟩
    refine wk ?_;rw[show(List.range k).map (dJ l)++[dJ l k]=(List.range (k+1)).map (dJ l)by rw[sK,eZ];rfl]at H;exact⟨sB,(k+1,r1),sB,⟨by dsimp only;omega,abc,H.sx⟩,by dsimp only;omega⟩
  ·obtain rfl:k=n:=aa;have h4:=N8 h3 (k:=k) (aK _);have h5:(mi (l.take (3*k))).length=k:=(Ih k (by rw[bb];omega)).2;rw[bR aa]at h4;have e:kW f (c::l)=some ((List.range k).map (dJ l),l.drop (3*k)):=by
    unfold kW;simp only;rw[<-hn,if_pos ⟨Ja.1,Ja.2,h3,by rw[h4];exact ij⟩,h4]
   rw[e];obtain⟨V2,hV2,H,hr⟩:=Rel.aT H (λ_=>rfl) ag;have oo:=ht.rest (k:=3*k) aa;refine wk ?_;refine dV 19 [] [0,1,2,3,4,5,6,7] H ?_;clear H;intro w H;refine wk ?_;exact⟨V2,r,_,hV2,H.sx,rfl,hr,oo.up hV2⟩
end
theorem Ew(h:n<256){x:Int}(hx:x=n):[Value.int .u8 (wr .u8 x)]=[UInt8.ofNat n].flatMap aE:=by
 have e1:wr .u8 x=(n:Int):=by rw[hx];show(n:Int)%256=_;omega
 have e2:(UInt8.ofNat n).toNat=n:=by rw[jl];omega
 simp only[bz,gB,aE,bv,cm,e1,e2]
section
variable{V W:ae}
theorem I4(hV:Sub V W){s:Sl}{p:List bS}(hs:l7 V s p)(hp:p.length<=16):aC 213 [s.v] W λv w'=>∃r:Sl,v=r.v/\Rel W V [.row r 5 1 ((sG p).flatMap aE)] V w':=by
 have H:=Rel.start hV;have hlen:=hs.len;refine eV Tryz.func213 21 [0,2,3,5,10,11,12,13] ?_;refine wk ?_;refine H.nA ?_;clear H;intro w b9 H;refine wk ?_;replace H:=H.bA (Ew (n:=p.length) aa aa);replace H:=H.fA (n:=1) (e:=5) (sz:=1) rfl (by simp[maxLen]);refine aY (S:=Nat×Sl) ah [0,2,10,11] (λk=>[(3,k.2.v),(12,iv k.1)]) (λk w'=>k.1<=p.length/\Rel W V [.row k.2 5 1 ((UInt8.ofNat p.length::fY (p.take k.1)).flatMap aE)] V w') (λk _=>p.length-k.1) (0,⟨some ⟨b9,0,none⟩,1,1⟩) ?_;conv=>whnf
 refine⟨sB,⟨aa,H⟩,?_⟩;clear H;rintro⟨k,r⟩w⟨hk,H⟩;dsimp only at hk H |-;by_cases hlt:k<p.length
 ·obtain⟨hpl,g1,g2,g3⟩:=hs.mZ hlt;refine wk ?_;refine H.nA ?_;clear H;intro w b5 H;refine H.wg ?_;clear H;intro w H;obtain⟨V2,hV2,H,hb5⟩:=H.bt;have hx:ay V2 ⟨some ⟨b5,0,none⟩,3,3⟩ (uV p[k]):=⟨rfl,aK _,hb5.cells⟩
  refine Rel.eJ H (i:=0) rfl hx (by
   rw[av,nY,bb];show _+3<=_;omega) ?_
  clear H;intro r1 w H;replace H:=H.less (Sub.refl _) hV2;simp only[bC]at H;refine wk ?_;refine⟨sB,(k+1,r1),sB,⟨by dsimp only;omega,?_⟩,by dsimp only;omega⟩;rw[bZ hlt];simp only[fY,bT,bz,gB,cm,aL,bJ]at H |-;exact H
 ·rw[bR aa]at H;refine wk ?_;exact⟨r,rfl,H⟩
theorem afI(hV:Sub V W){f:Nat}(hf:f<64){s:Sl}{p:List bS}(hs:l7 V s p)(hp:p.length<=16):aC 134 [.agg (fV f s).toArray] W λv w'=>∃r:Sl,v=r.v/\Rel W V [.row r 5 1 ((oB f p).flatMap aE)] V w':=by
 have H:=Rel.start hV;refine eV Tryz.func134 22 [0,1,2,3,7] ?_;refine wk ?_;refine H.nA ?_;clear H;intro w b1 H;unfold oB;by_cases h48:f=48
 ·rw[if_pos h48];refine wk ?_;replace H:=H.cb 5 1;exact⟨⟨none,0,0⟩,rfl,H.sx⟩
 rw[if_neg h48];refine wk ?_;refine(C5 H.data aa s).use ?_;rintro q w⟨rfl,K⟩;(replace H:=H.az K);unfold gD;by_cases h32:f<32
 ·rw[if_pos h32];refine wk ?_;obtain⟨V2,hV2,H,fE⟩:=(H.sx (own':=[.ax b1 (fV f s) _])).bt;have k0:=fE.bE (i:=0) rfl;have k1:=fE.bE (i:=1) rfl;(first|refine cz (id:=4) ah mixed (Kv V2) Kv.trans [3,6] [1,2,5] [0,1,2,4,5,3,6,7,8] [(3,[]),(6,[]),(7,[3,6])] aj ?_);intro w aR;replace H:=Rel.ext H aR.ext;repeat' (refine wk ?_;first|(first|refine Kv.go H ?_|refine Kv.go2 H (by assumption) ?_|(refine And.intro (λw1 hkp=>?_) ?_;focus ((first|have H:=Kv.in H hkp|have H:=Kv.gi H (by assumption) hkp);((repeat ((conv=>whnf);first|refine an ?_|refine H.ce ?_|refine H.db ?_|refine ea ?_|refine ol ?_|fail|refine cT ?_|refine cF ?_|refine cN ?_|refine cM ?_|refine H.lw ?_|refine H.ll ?_));(conv=>whnf));all_goals (first|exact⟨rfl,rfl⟩|exact rfl)))|refine And.intro ?_ ?_|(refine H.nA ?_;clear H;intro w _ H))|(refine(I4 H.data (hs.up hV2) hp).use ?_;rintro q w⟨r,rfl,K⟩;(replace H:=Rel.call H K);simp only[cm,aL,aA]at H))
  ·replace H:=H.kh;refine wk ?_;replace H:=H.bA (Ew (n:=f) aa aa);replace H:=H.fA (n:=1) (e:=5) (sz:=1) rfl (by simp[maxLen]);replace H:=H.kh;refine Rel.dD H (i:=0) rfl (by
    unfold sG;simp only[av,aI,nY];omega) ?_
   clear H;intro r1 w H;replace H:=H.less (Sub.refl _) hV2;simp only[bC]at H;refine wk ?_;exact⟨r1,rfl,H⟩
  ·refine wk ?_;replace H:=H.bA (Ew (n:=f) aa aa);replace H:=H.fA (n:=1) (e:=5) (sz:=1) rfl (by simp[maxLen]);replace H:=H.kh;refine Rel.dD H (i:=0) rfl (by
    unfold sG;simp only[av,aI,nY];omega) ?_
   clear H;intro r1 w H;replace H:=H.less (Sub.refl _) hV2;simp only[bC]at H;refine wk ?_;exact⟨r1,rfl,H⟩
 ·rw[if_neg h32];refine H.wg ?_;clear H;intro _ w H;replace H:=H.bA (Ew (n:=f) aa aa);replace H:=H.fA (n:=1) (e:=5) (sz:=1) rfl (by simp[maxLen]);exact⟨_,rfl,H.sx⟩
structure Xc(W V:ae)(o:Option (Nat×List bS))(v:ao)(w':ae):Prop where
 ex:∃(V':ae) (f:Nat) (r:Sl),Sub V V'/\Rel W V [] V' w'/\(match o with
  | none=>v=.tuple #[.agg (fV f r).toArray,.bool false]
  | some (g,p)=>v=.tuple #[.agg (fV f r).toArray,.bool true]/\f=g/\l7 V' r p)
theorem afe(hV:Sub V W){s:Sl}{b:ad}(hs:ay V s b)(hl:b.length<=1000000000):aC 136 [s.v] W (Xc W V (nE b)):=by
 have H:=Rel.start hV;have hlen:=hs.len;refine eV Tryz.func136 46 [0,2,3,4,5,6,9,26,29,40] ?_;refine wk ?_;refine H.nA ?_;clear H;intro w b2 H;cases b with
 | nil =>
  rw[aI]at hlen;refine H.wg ?_;clear H;intro w H;exact⟨V,48,⟨none,0,0⟩,Sub.refl _,H.sx,rfl,rfl,aB.nil _ _⟩
 | cons c l =>
  obtain⟨p0,c0⟩:=hs.aX (g:=bv) (λ_=>rfl) (show 0<(c::l).length by simp);rw[pU]at c0;rw[av]at hlen hl;have Ah:=c.toNat_lt;have ht:=hs.rest (k:=1) ai;rw[A0,mJ]at ht;have htl:=ht.len;refine wk ?_;refine H.nA ?_;clear H;intro w b4 H;refine H.wg ?_;clear H;intro w H;refine(VS c.toNat w Ah).use ?_;rintro v w'⟨rfl,rfl⟩;by_cases hfo:c.toNat<64/\c.toNat%16<4;rotate_left
  ·have e:nE (c::l)=none:=by unfold nE;simp only;rw[if_neg (λh=>hfo h.1)]
   rw[e,decide_eq_false hfo];refine H.wg ?_;clear H;intro w H;exact⟨V,0,⟨none,0,0⟩,Sub.refl _,H.sx,rfl⟩
  rw[decide_eq_true hfo];by_cases h48:c.toNat=48
  ·have e:nE (c::l)=none:=by unfold nE;simp only;rw[if_neg (λh=>h.2 h48)]
   rw[e];refine H.wg ?_;clear H;intro w H;exact⟨V,0,⟨none,0,0⟩,Sub.refl _,H.sx,rfl⟩
  have er:nE (c::l)=match rl c.toNat l with
   | some (p,[])=>some (c.toNat,p)
   | _=>none:=by
    unfold nE;simp only;rw[if_pos ⟨hfo,h48⟩];rfl
  refine wk ?_;refine(C5 H.data Ah ⟨none,0,0⟩).use ?_;rintro q w⟨rfl,K⟩;(replace H:=H.az K);by_cases h32:c.toNat<32
  ·rw[decide_eq_true h32];refine wk ?_;refine(zN H.data Ah ⟨none,0,0⟩).use ?_;rintro q w⟨rfl,K⟩;(replace H:=H.az K);refine wk ?_;refine(T5 H.data ht aa h32).use ?_;rintro q w⟨V2,r,t,hV2,K,hk⟩;(replace H:=H.az K);unfold rl at er;rw[if_pos h32]at er;cases hp:kW c.toNat l with
   | none =>
    rw[hp]at hk er;obtain rfl:=hk;rw[er];refine H.wg ?_;clear H;intro _ w H;exact⟨V2,0,⟨none,0,0⟩,hV2,H.sx,rfl⟩
   | some y =>
    obtain⟨p,l2⟩:=y;rw[hp]at hk er;obtain⟨rfl,hr,oo⟩:=hk;have Rh:=oo.len;rw[er];cases l2 with
    | nil =>
     rw[aI]at Rh;refine H.wg ?_;clear H;intro _ w H;exact⟨V2,c.toNat,r,hV2,H.sx,congrArg (λb=>Value.tuple #[.agg (fV c.toNat r).toArray,.bool b]) (decide_eq_true aa),rfl,hr⟩
    | cons y l2 =>
     rw[av]at Rh;refine H.wg ?_;clear H;intro _ w H;exact⟨V2,c.toNat,r,hV2,H.sx,congrArg (λb=>Value.tuple #[.agg (fV c.toNat r).toArray,.bool b]) (decide_eq_false aa)⟩
  ·rw[decide_eq_false h32];unfold rl at er;rw[if_neg h32]at er;rw[er];cases l with
   | nil =>
    rw[aI]at hlen;refine H.wg ?_;clear H;intro w H;exact⟨V,c.toNat,⟨none,0,0⟩,Sub.refl _,H.sx,congrArg (λb=>Value.tuple #[.agg (fV c.toNat ⟨none,0,0⟩).toArray,.bool b]) (decide_eq_true aa),rfl,aB.nil _ _⟩
   | cons y l2 =>
    rw[av]at hlen;refine H.wg ?_;clear H;intro w H;exact⟨V,c.toNat,⟨none,0,0⟩,Sub.refl _,H.sx,congrArg (λb=>Value.tuple #[.agg (fV c.toNat ⟨none,0,0⟩).toArray,.bool b]) (decide_eq_false aa)⟩
end
theorem Xp:∀f:Nat,f<256->bN .and .i64 (f:Int) 15=((f%16:Nat):Int):=by decide +kernel
theorem UB{x sh:Nat}{y:Int}(hy:y=sh)(h:sh<=64):(x:Int)/2^min y.toNat IntKind.i64.bits=((x/2^sh:Nat):Int):=by
 have e:min y.toNat IntKind.i64.bits=sh:=by
  rw[hy,e8];show min sh 64=sh;omega
 rw[e,Int.natCast_ediv,Int.natCast_pow];rfl
structure Nq(W V:ae)(o:fx)(v:ao)(w':ae):Prop where
 ex:∃(V':ae) (r:Sl),Sub V V'/\Rel W V [] V' w'/\(match o with
  | none=>v=.tuple #[.slice none 0 0,.bool false]
  | some x=>v=.tuple #[r.v,.bool true]/\ay V' r x)
section
variable{V W:ae}
theorem ahG(c:UInt8):[bv c,bv c,bv c]=[c,c,c].flatMap aE:=rfl
theorem N7{ps:Sl}{aH:List bS}(hp:l7 V ps aH){k:Nat}(hk:k<aH.length):ay V ⟨aU (some ⟨bD ps.a,bw ps.a+k*3,none⟩) 0 3 1,3-0,3-0⟩ (uV aH[k]):=by
 obtain⟨q0,g1,g2,g3⟩:=hp.mZ hk;refine⟨rfl,aK _,?_⟩;show Cells V (aU (some ⟨bD ps.a,bw ps.a+k*3,none⟩) 0 3 1) _;have e:aU (some ⟨bD ps.a,bw ps.a+k*3,none⟩) 0 3 1=some ⟨bD ps.a,bw ps.a+k*3,none⟩:=by
  unfold aU;rw[if_neg ag];simp[addr_add]
 rw[e];refine⟨λ_=>rfl,λj v hj=>?_⟩;simp only[bD,bw];match j,hj with
 | 0,hj=>cases hj;exact g1
 | 1,hj=>cases hj;exact g2
 | 2,hj=>cases hj;exact g3
 | j+3,hj=>simp at hj
theorem afh(hV:Sub V W){f:Nat}(hf:f<64){ps:Sl}{aH:List bS}(hp:l7 V ps aH)(hpo:kF f aH){s:Sl}{row:ad}(hs:ay V s row){wd:Nat}(hw:wd<=64)(hl:row.length=rowOf f wd):aC 274 [.agg (fV f ps).toArray,s.v,iv (wd:Int)] W (Nq W V (uq f aH wd row)):=by
 have H:=Rel.start hV;have hlen:=hs.len;have hb:=BM f;have QT:row.length<=200:=by
  rw[hl];unfold rowOf;have:wd*bitsOf f<=64*24:=Nat.mul_le_mul hw hb.2;omega
 refine eV Tryz.func274 88 [0,1,2,3,6,7,8,10,11,12,13,14,16,17,20,22,23,24,25,42,43,44,74,79,80] ?_;refine wk ?_;refine H.nA ?_;clear H;intro w b3 H;refine wk ?_;refine(zN H.data aa ps).use ?_;rintro q w⟨rfl,K⟩;(replace H:=H.az K);unfold uq;by_cases h3:f/16=3
 ·rw[if_pos h3];refine wk ?_;exact⟨V,s,Sub.refl _,H.sx,rfl,hs⟩
 rw[if_neg h3];by_cases h2:f/16=2
 ·rw[if_pos h2];refine wk ?_;replace H:=H.cb 5 1;refine aY (S:=Nat×Sl) ah [0,1,2,3,6,7,11,12,13,14,16,17,20,22,23,42,43,44,74,79,80] (λk=>[(8,k.2.v),(24,iv k.1)]) (λk w'=>k.1<=row.length/\Rel W V [.row k.2 5 1 (((row.take k.1).flatMap λc=>[c,c,c]).flatMap aE)] V w') (λk _=>row.length-k.1) (0,⟨none,0,0⟩) ?_;conv=>whnf
  refine⟨sB,⟨aa,H.sx⟩,?_⟩;clear H;rintro⟨k,r⟩w⟨hk,H⟩;dsimp only at hk H |-;by_cases hlt:k<row.length
  ·obtain⟨p0,c0⟩:=hs.aX (g:=bv) (λ_=>rfl) hlt;refine H.wg ?_;clear H;intro _ w H;replace H:=H.bA (ahG row[k]);replace H:=H.fA (n:=3) (e:=5) (sz:=1) rfl (by simp[maxLen]);have hle:((row.take k).flatMap λc=>[c,c,c]).length<=600:=by
    rw[PJ,nY,bu,qX,bb];omega
   refine Rel.dD H (i:=0) rfl (by simp only[av,aI];omega) ?_;clear H;intro r1 w H;simp only[bC]at H;refine wk ?_;refine⟨sB,(k+1,r1),sB,⟨by dsimp only;omega,?_⟩,by dsimp only;omega⟩;rw[bZ hlt,bT];exact H
  ·rw[bR aa]at H;obtain⟨V2,hV2,H,hr⟩:=Rel.aT H (λ_=>rfl) ag;refine wk ?_;exact⟨V2,r,hV2,H.sx,rfl,hr⟩
 rw[if_neg h2];obtain⟨hn,h32,hm⟩:=HX hf h3 h2;obtain⟨pp1,pp2,pp3⟩:=hpo.ind h32;have hpl:=hp.len;refine wk ?_;refine(Es H.data hf ps).use ?_;rintro q w⟨rfl,K⟩;(replace H:=H.az K);have hm2:=Di f;unfold rowOf at hl;rcases hn with e|e
 ·rw[e]at hl |-;refine wk ?_;replace H:=H.cb 5 1;refine aY (S:=Nat×Sl) ah [0,1,2,3,10,11,16,17,20,22,23,24,25,42] (λk=>[(8,k.2.v),(43,iv k.1)]) (λk w'=>k.1<=8*row.length/1/\(∀j,j<k.1->j<wd->fieldAt 1 row j<aH.length)/\(∀j,j<k.1->wd<=j->fieldAt 1 row j=0)/\Rel W V [.row k.2 5 1 ((fY ((List.range (min k.1 wd)).map (nF 1 aH row))).flatMap aE),.ax b3 (fV f ps) 160] V w') (λk _=>8*row.length/1-k.1) (0,⟨none,0,0⟩) ?_;conv=>whnf
  refine⟨sB,⟨aa,λj hj=>by omega,λj hj=>by omega,by simpa using H⟩,?_⟩;clear H;rintro⟨i,r⟩w⟨hi,hA,hB,H⟩;dsimp only at hi hA hB H |-;by_cases hlt:i<8*row.length/1
  ·obtain⟨p0,c0⟩:=nQ hs (i:=i*1/8) aa;have hx:(z8 row (i*1/8)).toNat/2^(8-1-i*1%8)<256:=LD (Nat.div_le_self _ _) (dY _);have hv:bN .and .i64 (((z8 row (i*1/8)).toNat/2^(8-1-i*1%8):Nat):Int) (2-1)=((fieldAt 1 row i:Nat):Int):=and_1 _ hx;refine wk ?_;refine dV 17 [] [0,1,2,3,4,5,6,7,8,9,10,11,12,13,14] H ?_;clear H;intro w H;refine wk ?_;rw[show(1:Int)*2^min ((1:Nat):Int).toNat IntKind.i64.bits=2 by decide,UB (sh:=8-1-i*1%8) aa aa];refine wk ?_;rw[hv];have cJ:=Pt 1 row i;obtain⟨k,hk⟩:∃k,k=fieldAt 1 row i:=⟨_,rfl⟩
   rw[<-hk]at cJ |-;by_cases xM:i<wd
   ·by_cases hkp:k<aH.length
    ·obtain⟨q0,g1,g2,g3⟩:=hp.mZ hkp;have hle:(fY ((List.range (min i wd)).map (nF 1 aH row))).length<=300:=by
      rw[nY,bu,qX];omega
     refine wk ?_;refine Rel.eJ (x:=⟨aU (some ⟨bD ps.a,bw ps.a+k*3,none⟩) 0 3 1,3-0,3-0⟩) H (i:=0) rfl (N7 hp hkp) (by simp only[av,aI];omega) ?_;clear H;intro r1 w H;simp only[bC]at H;refine wk ?_;refine⟨sB,(i+1,r1),sB,⟨by dsimp only;omega,λj hj jX=>?_,λj hj jX=>hB j aa jX,?_⟩,by dsimp only;omega⟩
     ·by_cases e2:j=i
      ·rw[e2,<-hk];exact hkp
      ·exact hA j aa jX
     ·rw[show min (i+1) wd=min i wd+1 by omega,sK,eZ,Gm,show min i wd=i by omega];rw[show min i wd=i by omega]at H;have hpx:nF 1 aH row i=aH[k]:=by
       unfold nF ED;rw[<-hk,a8 hkp];rfl
      rw[hpx];simp only[fY,bT,bz,gB,cm]at H |-;exact H
    ·rw[if_neg (λh=>hkp (by rw[hk];exact h.1 i xM))];refine wk ?_;exact⟨V,⟨none,0,0⟩,Sub.refl _,H.sx,rfl⟩
   ·by_cases hk0:k=0
    ·refine wk ?_;refine⟨sB,(i+1,r),sB,⟨by dsimp only;omega,λj hj jX=>hA j aa jX,λj hj jX=>?_,?_⟩,by dsimp only;omega⟩
     ·by_cases e2:j=i
      ·rw[e2,<-hk,hk0]
      ·exact hB j aa jX
     ·rw[show min (i+1) wd=min i wd by omega];exact H
    ·rw[if_neg (λh=>hk0 (by rw[hk];exact h.2 i hlt aa))];refine wk ?_;exact⟨V,⟨none,0,0⟩,Sub.refl _,H.sx,rfl⟩
  ·have hok:DO 1 aH wd row:=⟨λj hj=>hA j aa hj,λj hj jX=>hB j aa jX⟩
   rw[if_pos hok,show min i wd=wd by omega]at *;obtain⟨V2,hV2,H,hr⟩:=Rel.aT H (λ_=>rfl) ag;refine wk ?_;exact⟨V2,r,hV2,H.sx,rfl,hr⟩
 ·rw[e]at hl |-;refine wk ?_;replace H:=H.cb 5 1;refine aY (S:=Nat×Sl) ah [0,1,2,3,10,11,16,17,20,22,23,24,25,42] (λk=>[(8,k.2.v),(43,iv k.1)]) (λk w'=>k.1<=8*row.length/4/\(∀j,j<k.1->j<wd->fieldAt 4 row j<aH.length)/\(∀j,j<k.1->wd<=j->fieldAt 4 row j=0)/\Rel W V [.row k.2 5 1 ((fY ((List.range (min k.1 wd)).map (nF 4 aH row))).flatMap aE),.ax b3 (fV f ps) 160] V w') (λk _=>8*row.length/4-k.1) (0,⟨none,0,0⟩) ?_;conv=>whnf
  refine⟨sB,⟨aa,λj hj=>by omega,λj hj=>by omega,by simpa using H⟩,?_⟩;clear H;rintro⟨i,r⟩w⟨hi,hA,hB,H⟩;dsimp only at hi hA hB H |-;by_cases hlt:i<8*row.length/4
  ·obtain⟨p0,c0⟩:=nQ hs (i:=i*4/8) aa;have hx:(z8 row (i*4/8)).toNat/2^(8-4-i*4%8)<256:=LD (Nat.div_le_self _ _) (dY _);have hv:bN .and .i64 (((z8 row (i*4/8)).toNat/2^(8-4-i*4%8):Nat):Int) (16-1)=((fieldAt 4 row i:Nat):Int):=Xp _ hx;refine wk ?_;refine dV 17 [] [0,1,2,3,4,5,6,7,8,9,10,11,12,13,14] H ?_;clear H;intro w H;refine wk ?_;rw[show(1:Int)*2^min ((4:Nat):Int).toNat IntKind.i64.bits=16 by decide,UB (sh:=8-4-i*4%8) aa aa];refine wk ?_;rw[hv];have cJ:=Pt 4 row i;obtain⟨k,hk⟩:∃k,k=fieldAt 4 row i:=⟨_,rfl⟩
   rw[<-hk]at cJ |-;by_cases xM:i<wd
   ·by_cases hkp:k<aH.length
    ·obtain⟨q0,g1,g2,g3⟩:=hp.mZ hkp;have hle:(fY ((List.range (min i wd)).map (nF 4 aH row))).length<=300:=by
      rw[nY,bu,qX];omega
     refine wk ?_;refine Rel.eJ (x:=⟨aU (some ⟨bD ps.a,bw ps.a+k*3,none⟩) 0 3 1,3-0,3-0⟩) H (i:=0) rfl (N7 hp hkp) (by simp only[av,aI];omega) ?_;clear H;intro r1 w H;simp only[bC]at H;refine wk ?_;refine⟨sB,(i+1,r1),sB,⟨by dsimp only;omega,λj hj jX=>?_,λj hj jX=>hB j aa jX,?_⟩,by dsimp only;omega⟩
     ·by_cases e2:j=i
      ·rw[e2,<-hk];exact hkp
      ·exact hA j aa jX
     ·rw[show min (i+1) wd=min i wd+1 by omega,sK,eZ,Gm,show min i wd=i by omega];rw[show min i wd=i by omega]at H;have hpx:nF 4 aH row i=aH[k]:=by
       unfold nF ED;rw[<-hk,a8 hkp];rfl
      rw[hpx];simp only[fY,bT,bz,gB,cm]at H |-;exact H
    ·rw[if_neg (λh=>hkp (by rw[hk];exact h.1 i xM))];refine wk ?_;exact⟨V,⟨none,0,0⟩,Sub.refl _,H.sx,rfl⟩
   ·by_cases hk0:k=0
    ·refine wk ?_;refine⟨sB,(i+1,r),sB,⟨by dsimp only;omega,λj hj jX=>hA j aa jX,λj hj jX=>?_,?_⟩,by dsimp only;omega⟩
     ·by_cases e2:j=i
      ·rw[e2,<-hk,hk0]
      ·exact hB j aa jX
     ·rw[show min (i+1) wd=min i wd by omega];exact H
    ·rw[if_neg (λh=>hk0 (by rw[hk];exact h.2 i hlt aa))];refine wk ?_;exact⟨V,⟨none,0,0⟩,Sub.refl _,H.sx,rfl⟩
  ·have hok:DO 4 aH wd row:=⟨λj hj=>hA j aa hj,λj hj jX=>hB j aa jX⟩
   rw[if_pos hok,show min i wd=wd by omega]at *;obtain⟨V2,hV2,H,hr⟩:=Rel.aT H (λ_=>rfl) ag;refine wk ?_;exact⟨V2,r,hV2,H.sx,rfl,hr⟩
end
def aN.vz:aN->Bool
 | .obj _ _=>false
 | _=>true
section
variable{w0 V0 V w:ae}{own:bU}
theorem Rel.tw{B:Nat}(H:Rel w0 V0 own V w)(hc:own.all aN.vz=true)(hB:w0.heap.size<=B){w':ae}(ht:Tw B w w'):Rel w0 V0 own V w':=by
 refine⟨⟨ht.os.trans H.base.os,ht.tape.trans H.base.tape,ht.output.trans H.base.output,Nat.le_trans H.base.size ht.size,λk hk=>(ht.low k aa).trans (H.base.block k hk)⟩,H.sub,H.old,λr hr=>?_,H.new,H.hid,H.apart,⟨λb c t f hb=>ht.bE _ _ _ _ (H.data.bE b c t f hb)⟩⟩;have h1:=H.laid r hr;have h2:=bj.1 hc r hr;cases r with
 | ax b l t=>exact di.tw h1 ht
 | row s e sz xs=>exact Row.Vt h1 ht
 | obj b o=>cases h2
def AD:Obj->Bool
 | .cells _ _ _=>false
 | _=>true
def AA(w:ae)(B j:Nat):Option aN:=match w.heap[j]? with
 | some o=>if B<=j/\AD o=true then some (.obj j o)else none
 | none=>none
theorem pE{B j:Nat}{r:aN}(h:AA w B j=some r):∃o,w.heap[j]?=some o/\B<=j/\AD o=true/\r=.obj j o:=by
 unfold AA at h;split at h
 ·rename_i o ho;split at h
  ·rename_i hc;cases h;exact⟨o,ho,hc.1,hc.2,rfl⟩
  ·cases h
 ·cases h
theorem aN.cell_of{r:aN}(hc:r.vz=true)(h:r.laid w){b:Nat}(hb:r.at_=some b):∃c t f,w.heap[b]?=some (.cells c t f):=by
 cases r with
 | ax b' l t=>cases hb;exact⟨_,_,_,h⟩
 | row s e sz xs =>
  simp only[aN.at_,Option.map_eq_some_iff]at hb;obtain⟨p,hp,rfl⟩:=hb;rcases h.at_ with⟨h1,_⟩|⟨b',cur,h1,h2,_⟩
  ·rw[hp]at h1;cases h1
  ·rw[hp]at h1;cases h1;obtain⟨fz,h2,_⟩:=h2;exact⟨_,_,_,h2⟩
 | obj b' o=>cases hc
theorem Rel.marks(H:Rel w0 V0 own V w)(hc:own.all aN.vz=true){B:Nat}(hB:w0.heap.size<=B):∃X:bU,Rel w0 V0 (own++X) V w/\∀w',(∀r∈X,r.laid w')->l8 B w w':=by
 refine⟨(List.range w.heap.size).filterMap (AA w B),⟨H.base,H.sub,H.old,?_,?_,?_,?_,H.data⟩,?_⟩
 ·intro r hr;rcases cq.1 hr with hr|hr
  ·exact H.laid r hr
  ·obtain⟨j,_,hj⟩:=sM.1 hr;obtain⟨o,ho,_,_,rfl⟩:=pE hj;exact ho
 ·intro r hr b hb;rcases cq.1 hr with hr|hr
  ·exact H.new r hr b hb
  ·obtain⟨j,_,hj⟩:=sM.1 hr;obtain⟨o,ho,Cf,_,rfl⟩:=pE hj;cases hb;omega
 ·intro r hr b hb;rcases cq.1 hr with hr|hr
  ·exact H.hid r hr b hb
  ·obtain⟨j,_,hj⟩:=sM.1 hr;obtain⟨o,ho,Cf,hn,rfl⟩:=pE hj;cases hb;intro c t f hv;have:=H.data.bE _ _ _ _ hv;rw[ho]at this;cases this;cases hn
 ·refine ue.2 ⟨H.apart,?_,λr hr s hs b hb gK=>?_⟩
  ·rw[List.pairwise_filterMap];refine List.Pairwise.imp ?_ List.nodup_range;intro i j xL r hr s hs b hb gK;obtain⟨o,ho,_,_,rfl⟩:=pE hr;obtain⟨o',lI,_,_,rfl⟩:=pE hs;cases hb;cases gK;exact xL rfl
  ·obtain⟨c,t,f,hcell⟩:=aN.cell_of (bj.1 hc r hr) (H.laid r hr) hb;obtain⟨j,_,hj⟩:=sM.1 hs;obtain⟨o,ho,Cf,hn,rfl⟩:=pE hj;cases gK;rw[ho]at hcell;cases hcell;cases hn
 ·intro w' hX j o hj ho hn;have hlt:=(jG.1 ho).1;have hno:AD o=true:=by
   cases o with
   | cells c t f=>exact absurd rfl (hn c t f)
   | _=>rfl
  exact hX (.obj j o) (sM.2 ⟨j,List.mem_range.2 hlt,by simp[AA,ho,hj,hno]⟩)
end
theorem LU{C:Cx}(hT:bK C.P C.T)(hro:C.r=none){g:Operand}{ps:Array Tmp}{assign body:Code}{env:Env}{ds:List Deferred}{w:ae}{Q:ic}{gf:Nat}{lb:aD}{w0 V0 V:ae}
  (hg:cA env g λv=>v=.func (.func gf) #[] lb.toArray) {xs:List aD} (hit:Eh C.P gf lb xs (λW=>Sub V W)) (hps:∀x∈xs,x.length=ps.size) (hpn:(ps.toList.all λp=>decide (p<C.n))=true)
  {σ:Type} (own:Nat->σ->bU) (hcell:∀k s,(own k s).all aN.vz=true) (F:Nat->σ->ae->Prop) {τ:Type} (F7:Code->τ->bU) (Qr:∀c t,(F7 c t).all aN.vz=true) (Fx:Code->τ->ae->Prop)
  (s0:σ) {V1:ae} (hV1:Sub V V1) (H:Rel w0 V0 (own 0 s0) V1 w) (hF:F 0 s0 V1)
  (xY:∀L k x W s V1,xs[k]?=some x->Sub V V1->F k s V1->Rel w0 V0 (own k s) V1 W->ia { C with r:=some L } assign (AO ps.toList x env) [] W λe zO ds1 W1=>(match e with
   | .normal=>ds1=[]/\l8 w.heap.size W W1/\∀W2,Tw w.heap.size W1 W2->ia { C with r:=some L } body zO [] W2 (Mf w.heap.size W2 (λW=>∃V1 s,Sub V V1/\F (k+1) s V1/\Rel w0 V0 (own (k+1) s) V1 W) (λc W=>∃V1 t,Sub V V1/\Fx c t V1/\Rel w0 V0 (F7 c t) V1 W))
   | _=>False))
  (hdone:∀D W s V1,Sub V V1->F xs.length s V1->Rel w0 V0 (own xs.length s++[.obj D (.deferred (some []))]) V1 W->Q .normal env ({ target:=.collected D,args:=#[] }::ds) W)
  (hstop:∀D c W t V1,Sub V V1->Fx c t V1->Rel w0 V0 (F7 c t++[.obj D (.deferred (some []))]) V1 W->ia C c env ({ target:=.collected D,args:=#[] }::ds) W Q) :
  aP C (.rangeFunc g ps assign body) env ds w Q:=by
 have hB:w0.heap.size<=w.heap.size:=H.base.size;have Wl:∀ {own:bU} {V1 W:ae} {D:Nat},own.all aN.vz=true->w.heap.size<=D->W.heap[D]?=some (.deferred (some []))->Rel w0 V0 own V1 W->Rel w0 V0 (own++[.obj D (.deferred (some []))]) V1 W:=by
  intro own V1 W D hc hD hW H;refine⟨H.base,H.sub,H.old,?_,?_,?_,?_,H.data⟩
  ·intro r hr;rcases cq.1 hr with hr|hr
   ·exact H.laid r hr
   ·rw[cv.1 hr];exact hW
  ·intro r hr b hb;rcases cq.1 hr with hr|hr
   ·exact H.new r hr b hb
   ·rw[cv.1 hr]at hb;cases hb;omega
  ·intro r hr b hb;rcases cq.1 hr with hr|hr
   ·exact H.hid r hr b hb
   ·rw[cv.1 hr]at hb;cases hb;intro c t f hv;have:=H.data.bE _ _ _ _ hv;rw[hW]at this;cases this
  ·refine ue.2 ⟨H.apart,List.pairwise_singleton _ _,λr hr s hs b hb gK=>?_⟩;obtain⟨c,t,f,hcell⟩:=aN.cell_of (bj.1 hc r hr) (H.laid r hr) hb;rw[cv.1 hs]at gK;cases gK;rw[hW]at hcell;cases hcell
 refine TV hT hro hg hit hps hpn (λk W=>∃V1 s,Sub V V1/\F k s V1/\Rel w0 V0 (own k s) V1 W) (λc W=>∃V1 t,Sub V V1/\Fx c t V1/\Rel w0 V0 (F7 c t) V1 W) ?_ ?_ ?_ ⟨V1,s0,hV1,hF,H⟩ ?_ ?_ ?_
 ·rintro k W W'⟨V1,s,h1,h2,h3⟩ht;exact⟨V1,s,h1,h2,h3.tw (hcell k s) hB ht⟩
 ·rintro c W W'⟨V1,t,h1,h2,h3⟩ht;exact⟨V1,t,h1,h2,h3.tw (Qr c t) hB ht⟩
 ·rintro k W⟨V1,s,h1,h2,h3⟩;exact h1.trans h3.data
 ·rintro L k x W hx⟨V1,s,h1,h2,h3⟩;exact xY L k x W s V1 hx h1 h2 h3
 ·rintro D W hD hW⟨V1,s,h1,h2,h3⟩;exact hdone D W s V1 h1 h2 (Wl (hcell _ s) hD hW h3)
 ·rintro D c W hD hW⟨V1,t,h1,h2,h3⟩;exact hstop D c W t V1 h1 h2 (Wl (Qr c t) hD hW h3)
theorem Rel.uG{d:Obj}(H:Rel w0 V0 own V w){own':bU}(hs:own'.Sublist own)(hc:own'.all aN.vz=true)(hD:aN.obj D d∈own){w':ae}(ht:Tw D w w'):Rel w0 V0 own' V w' :=
 (H.sl hs).tw hc (H.new _ hD D rfl) ht
theorem Rel.mark{d:Obj}(H:Rel w0 V0 own V w)(hD:aN.obj D d∈own):w.heap[D]?=some d:=H.laid (.obj D d) hD
theorem agn{ts:Array TypeId}{t:TypeId}{k k':IntKind}{x y:Int}{K:ao->ae->Prop}(m:Int)(hm:m<=x/\m<=y/\(m=x\/m=y))(h:K (.int k m) w):bo P (Builtin.min_ ts t #[.int k x,.int k' y]) w K :=
 .of (run_min_int2 w ts t k k' x y) (by rw[show(if y<x then y else x)=m by split<;>omega];exact h)
abbrev Ef(m n len:Nat):Prop:=∀i,i<m↔i*n<len
theorem zG{h:Nat}(hn:1<=n):Ef h n (h*n):=λi=>by
 constructor
 ·intro hi;have:(i+1)*n<=h*n:=Nat.mul_le_mul_right n hi;rw[uc]at this;omega
 ·intro hi;exact Nat.lt_of_mul_lt_mul_right hi
def ja(s:Sl)(n i:Nat):Sl:=⟨aU s.a (i*n) (i*n+min n (s.len-i*n)) 1,min n (s.len-i*n),min n (s.len-i*n)⟩
def pa{α:Type}(l:List α)(n i:Nat):List α:=(l.drop (i*n)).take n
theorem H8(hs:ay V s l){n i:Nat}(hn:1<=n)(hi:i*n<l.length):ay V (ja s n i) (pa l n i):=by
 have hl:=hs.len;have h0:=hs.aX (g:=bv) (λ_=>rfl) hi;refine⟨by simp only[ja,pa,bb,bd];omega,aK _,λ_=>?_,λj v hj=>?_⟩
 ·exact(yV h0.1:Plain (aU s.a _ _ _))
 ·have iB:j<n/\i*n+j<l.length/\v=bv (l[i*n+j]?.getD 0):=by
   rw[fc]at hj;obtain⟨q1,q2⟩:=cW.1 hj;simp only[pa,bu,bb,bd]at q1;refine⟨aa,aa,?_⟩;rw[<-q2];simp only[pa,List.getElem_map,List.getElem_take,List.getElem_drop];rw[a8 aa];rfl
  obtain⟨g1,g2,g3⟩:=iB;obtain⟨_,c⟩:=hs.aX (g:=bv) (λ_=>rfl) g2;simp only[ja];rw[yT,yU h0.1 aa,g3,a8 g2,Nat.add_assoc,Nat.mul_one];exact c
def chunks(s:Sl)(n m:Nat):List aD:=(List.range m).map λi=>[(ja s n i).v]
theorem tp(s:Sl)(n m:Nat):(chunks s n m).length=m:=by simp[chunks]
theorem BT(hk:k<m):(chunks s n m)[k]?=some [(ja s n k).v]:=by
 simp[chunks,eu,pP hk]
section
variable{V W:ae}
theorem EB(hV:Sub V W)(s:Sl){n:Nat}(hn:1<=n):aC 217 [s.v,iv (n:Int)] W λv w'=>∃b c,v=.func (.func 277) #[] #[.pointer (some ⟨b,0,none⟩),.pointer (some ⟨c,0,none⟩)]/\∃V',Sub V V'/\Rel W V [] V' w'/\di V' b [s.v] 22/\di V' c [iv n] 3:=by
 have H:=Rel.start hV;refine eV Tryz.func217 9 [0,1,2,3,4,6] ?_;refine wk ?_;refine H.nA ?_;clear H;intro w b H;refine wk ?_;refine H.nA ?_;clear H;intro w c H;refine wk ?_;obtain⟨V1,h1,H,k1⟩:=H.bt;obtain⟨V2,h2,H,k2⟩:=H.bt;have k1':=k1.cells.fa h2;refine⟨b,c,rfl,V2,h1.trans h2,H,k2,?_⟩;exact h2.bE _ _ _ _ k1
theorem EA{b c:Nat}(hb:di V b [s.v] 22)(hc:di V c [iv n] 3)(hs:ay V s l)(hl:l.length<=1000000000)(hn:1<=n)(hnl:n<=1000000000)(hm:Ef m n l.length) :
  Eh Tryz.prog 277 [.pointer (some ⟨b,0,none⟩),.pointer (some ⟨c,0,none⟩)] (chunks s n m) (λW=>Sub V W):=by
 refine⟨xe Tryz.func277 rfl aj,?_⟩;intro L W J Jx hS hJ hJx xY h0;have hlen:=hs.len;have mo:=hs.cap;have tD:=hb.bE (i:=0) rfl;have dR:=hc.bE (i:=0) rfl;refine eV Tryz.func277 31 [0,1,2,4,5,9,30] ?_;refine wk ?_;refine aY ah [0,1,2] (λk:Nat=>[(4,.int .i64 ((k*n:Nat):Int))]) (λk w'=>k<=m/\J k w') (λk _=>m-k) 0 ?_;conv=>whnf
 refine⟨⟨by simp[get?],trivial⟩,⟨aa,h0⟩,?_⟩;rintro k w⟨hk,hj⟩;have H:=Rel.start (hS _ _ hj);by_cases hlt:k<m
 ·have fP:=(hm k).1 hlt;refine wk ?_;refine dV 3 [] [0,1,2,3,4,5,6] H ?_;clear H;intro w H;refine wk ?_;refine agn ((min n (s.len-k*n):Nat):Int) aa ?_;refine wk ?_;have hy:=xY k [(ja s n k).v] w (BT hlt) (hJ _ _ _ hj H.base);have ev:(ja s n k).v=Value.slice (aU s.a (((k*n:Nat):Int)).toNat ((((k*n:Nat):Int))+((min n (s.len-k*n):Nat):Int)).toNat 1) (((((k*n:Nat):Int))+((min n (s.len-k*n):Nat):Int)).toNat-(((k*n:Nat):Int)).toNat) (((((k*n:Nat):Int))+((min n (s.len-k*n):Nat):Int)).toNat-(((k*n:Nat):Int)).toNat):=by
   have e1:(((k*n:Nat):Int)+((min n (s.len-k*n):Nat):Int)).toNat=k*n+min n (s.len-k*n):=aa;rw[e1,e8,show k*n+min n (s.len-k*n)-k*n=min n (s.len-k*n)by omega];rfl
  rw[ev]at hy;refine hy.mono ?_;rintro r w3⟨ht,hf⟩;clear H;conv=>whnf
  refine wY (λh6=>?_) (λh6=>?_)
  ·conv=>whnf
   exact .inr (hf (by simpa using h6))
  ·have iB:=ht (by simpa using h6);have H:=Rel.start (hS _ _ iB);have e3:((k*n:Nat):Int)+(n:Int)=(((k+1)*n:Nat):Int):=by rw[uc];omega
   have lG:k*n<=1000000000:=aa;refine wk ?_;rw[e3];exact⟨sB,k+1,sB,⟨aa,iB⟩,aa⟩
 ·have fP:¬k*n<l.length:=λh=>hlt ((hm k).2 h);refine wk ?_;rw[show k=m by omega,<-tp s n m]at hj;exact .inl hj
theorem XA(hV:Sub V W){b c:Nat}{s:Sl}{l:ad}{n m:Nat}(hb:di V b [s.v] 22)(hc:di V c [iv n] 3)(hs:ay V s l)(hl:l.length<=1000000000)(hn:1<=n)(hnl:n<=1000000000)(hm:Ef m n l.length)(hm2:m<=1000000) :
  aC 309 [.slice none 0 0,.func (.func 277) #[] #[.pointer (some ⟨b,0,none⟩),.pointer (some ⟨c,0,none⟩)]] W λv w'=>∃r:Sl,v=r.v/\Rel W V [.row r 22 1 (((List.range m).map (ja s n)).flatMap cZ)] V w':=by
 have H:=Rel.start hV;refine eV Tryz.func309 13 [0,1,2,4,5,6,7] ?_;refine wk ?_;refine H.nA ?_;clear H;intro w b2 H;refine wk ?_;replace H:=H.cb 22 1;have hB:=H.base.size
 refine LU ah rfl (by(conv=>whnf)) (EA hb hc hs hl hn hnl hm) ?_ rfl (σ:=Sl) (τ:=Unit)
  (λk r=>[.row r 22 1 (((List.range k).map (ja s n)).flatMap cZ),.ax b2 [r.v] 96]) (λ_ _=>rfl)
  (λk _ _=>k<=m) (λ_ _=>[]) (λ_ _=>rfl) (λ_ _ _=>False) ⟨none,0,0⟩ (Sub.refl _) (by simpa using H) aa ?_ ?_ ?_
 ·intro y hy;obtain⟨i,_,rfl⟩:=cG.1 hy;rfl
 ·clear H;rintro L k x w r V3 hx aw hF H;have hk:k<m:=by
   have:=(cW.1 hx).1;rwa [tp]at this
  rw[BT hk]at hx;cases hx;conv=>whnf
  refine⟨rfl,l8.refl _ _,λw' gv=>?_⟩;obtain⟨X,H,hX⟩:=(H.tw rfl hB gv).marks rfl hB;simp only[aL,aA]at H;clear gv;generalize w'=w at H hX |-;refine H.wg ?_;clear H;intro _ w H;refine Rel.dC (f:=cZ) (l:=(List.range k).map (ja s n)) (x:=ja s n k) ah rfl rfl rfl rfl rfl ag (λ_=>rfl) (by simp[Value.oneCell']) H (by rw[bu,qX];show(k+1)*24<=_;omega) (by rw[bu,qX];omega) ?_;clear H;intro r1 w H;refine H.wg ?_;clear H;intro w H;rw[show(List.range k).map (ja s n)++[ja s n k]=(List.range (k+1)).map (ja s n)by rw[sK,eZ];rfl]at H;exact⟨hX _ (λr hr=>H.laid r (by simp[hr])),V3,r1,aw,hk,H.sx⟩
 ·clear H;rintro D w r V3 aw hF H;simp only[aL,aA]at H;rw[tp]at H;refine wk ?_;refine⟨H.mark ai,λw' ht=>?_⟩;replace H:=H.uG (own':=[.row r 22 1 (((List.range m).map (ja s n)).flatMap cZ)]) (by repeat (first|exact List.Sublist.refl _|refine List.Sublist.cons_cons _ ?_|refine List.Sublist.cons _ ?_|exact List.nil_sublist _)) rfl (by simp;rfl) ht;generalize w'=w at H;refine wk ?_;exact⟨r,rfl,H.less (Sub.refl _) aw⟩
 ·rintro D c w t V3 aw hF;exact hF.elim
theorem Yw(hV:Sub V W){b c:Nat}{s:Sl}{l:ad}{n m:Nat}(hb:di V b [s.v] 22)(hc:di V c [iv n] 3)(hs:ay V s l)(hl:l.length<=1000000000)(hn:1<=n)(hnl:n<=1000000000)(hm:Ef m n l.length)(hm2:m<=1000000) :
  aC 275 [.func (.func 277) #[] #[.pointer (some ⟨b,0,none⟩),.pointer (some ⟨c,0,none⟩)]] W λv w'=>∃r:Sl,v=r.v/\Rel W V [.row r 22 1 (((List.range m).map (ja s n)).flatMap cZ)] V w':=by
 have H:=Rel.start hV;refine eV Tryz.func275 5 [0,2] ?_;refine wk ?_;refine(XA H.data hb hc hs hl hn hnl hm hm2).use ?_;rintro v w⟨r,rfl,K⟩;(replace H:=Rel.call H K);simp only[cm]at H;refine wk ?_;exact⟨r,rfl,H⟩
structure s9{α:Type}(l:List α)(k:Nat)(L:List α):Prop where
 len:L.length=l.length
 out:∀i,i<l.length->(i<k\/l.length<i+1+k)->L[i]?=l[l.length-1-i]?
 mid:∀i,k<=i->i+1+k<=l.length->L[i]?=l[i]?
theorem s9.start(l:List α):s9 l 0 l:=⟨rfl,λi h1 h2=>by omega,λi _ _=>rfl⟩
theorem s9.done{l L:List α}(R:s9 l k L)(h:l.length<=2*k+1)(hk:2*k<=l.length+1):L=l.reverse:=by
 refine vP λi=>?_;by_cases hi:i<l.length
 ·rw[List.getElem?_reverse hi];by_cases ho:i<k\/l.length<i+1+k
  ·exact R.out i hi ho
  ·rw[R.mid i aa aa,show l.length-1-i=i by omega]
 ·rw[jk (by rw[R.len];omega),jk (by simp;omega)]
theorem s9.step{l L:List α}(R:s9 l k L)(h:2*k+1<l.length){x y:α}(hx:L[k]?=some x)(hy:L[l.length-1-k]?=some y):s9 l (k+1) ((L.set k y).set (l.length-1-k) x):=by
 have hL:=R.len;have e1:l[k]?=some x:=by rw[<-R.mid k (aK _) aa];exact hx
 have e2:l[l.length-1-k]?=some y:=by rw[<-R.mid _ aa aa];exact hy
 refine⟨by simp[hL],λi hi ho=>?_,λi h1 h2=>?_⟩
 ·rw[TA,List.length_set,TA];by_cases ha:l.length-1-k=i
  ·rw[if_pos ha,if_pos aa,show l.length-1-i=k by omega,e1]
  ·rw[if_neg ha];by_cases hb:k=i
   ·rw[if_pos hb,if_pos aa,<-hb,e2]
   ·rw[if_neg hb];exact R.out i hi aa
 ·rw[Ti aa,Ti aa];exact R.mid i aa aa
theorem UG(l:List Sl)(j:Nat)(x:Sl):(l.flatMap cZ).set j x.v=(l.set j x).flatMap cZ:=by
 have e:∀l:List Sl,l.flatMap cZ=l.map Sl.v:=λl=>by induction l with|nil=>rfl|cons _ _ ih=>simp[bz,ih]
 rw[e,e,List.map_set]
theorem afL{l:List Sl}(H:Rel w0 V0 (.row s 22 1 (l.flatMap cZ)::own) V W)(hl:l.length<=1000000) :
  aC 276 [s.v] W λv w'=>Rel w0 V0 (.row s 22 1 (l.reverse.flatMap cZ)::own) V w':=by
 have hlen:s.len=l.length:=H.gn (i:=0) rfl (λ_=>rfl) ag;refine eV Tryz.func276 28 [0,2,3,9] ?_;refine wk ?_;refine aY (S:=Nat×List Sl) ah [0] (λq=>[(2,iv q.1),(3,iv ((l.length:Int)-1-q.1))]) (λq w'=>s9 l q.1 q.2/\2*q.1<=l.length+1/\Rel w0 V0 (.row s 22 1 (q.2.flatMap cZ)::own) V w') (λq _=>l.length+1-2*q.1) (0,l) ?_;conv=>whnf
 refine⟨⟨rfl,by rw[hlen];simp[get?],trivial⟩,⟨s9.start l,aa,H⟩,?_⟩;clear H;rintro⟨k,L⟩w⟨R,hk,H⟩;dsimp only at R hk H |-;have hL:=R.len;by_cases hlt:2*k+1<l.length
 ·refine wk ?_;refine dV 3 [] [0,1,2,3,4,5,6,7,8,9,10,11,12,13,14,15] H ?_;clear H;intro w H;have S5:=H.eG (i:=0) rfl (λ_=>rfl) ag;obtain⟨p1,c1⟩:=S5.aX (g:=Sl.v) (λ_=>rfl) (show k<L.length by omega);obtain⟨p2,c2⟩:=S5.aX (g:=Sl.v) (λ_=>rfl) (show l.length-1-k<L.length by omega);have X3:w.cell? ⟨bD s.a,bw s.a+((l.length:Int)-1-k).toNat,none⟩=some (L[l.length-1-k]'aa).v:=by
   rw[show((l.length:Int)-1-k).toNat=l.length-1-k by omega];exact c2
  refine wk ?_;refine Rel.G6 (i:=0) H rfl k aa rfl rfl ?_;clear H;intro w H;simp only[bC]at H;rw[UG]at H;refine wk ?_;refine Rel.G6 (i:=0) H rfl (l.length-1-k) aa rfl (by
   rw[show((l.length:Int)-1-k).toNat=l.length-1-k by omega];rfl) ?_
  clear H;intro w H;simp only[bC]at H;rw[UG]at H;refine wk ?_;refine⟨sB,(k+1,_),?_,⟨R.step hlt (a8 aa) (a8 aa),by dsimp only;omega,H⟩,by dsimp only;omega⟩;exact⟨by simp[get?],by simp only[get?];congr 2;omega,trivial⟩
 ·refine wk ?_;rw[<-R.done aa hk];exact H
end
end Go.Proofs.YtmoiobegbpkkbaaGreatDoor
