import Derived.Test.YtmoiobegbpkkbaaGreatDoorTAE
import Derived.Lib.IndexLaws
import Derived.Laws.IdiomCopy
import Derived.ChangeKeysEq
open Array renaming getElem?_eq_some_iff->ku
open Bool renaming false_eq_true->sw,and_eq_true->eD
open Go.Result renaming andThen_ok->fb
open Go.Sem renaming run_bind->eU,run_pure->fP
open Go.Value renaming int->bO,bool->ic
open Int renaming toNat_natCast->jr,toNat->gR
open List renaming range->bZ,getElem?_map->ib,getElem?_range->sd,all_eq_true->bc,getElem?_eq_none->lO,mem_cons->bP,append_nil->aZ,length_nil->aK,take_append_drop->eW,getElem?_eq_some_iff->dH,length_cons->aq,take_of_length_le->bJ,drop_drop->gK,append_assoc->bj,cons_append->bb,nil_append->aL,mem_map->cJ,length_append->ak,length_take->bg,length_drop->aU,drop_left->kN,length->bU,drop_append_of_le_length->Fi,take_left->tD,flatMap_cons->bD,mem_append->cc,mem_filterMap->tE,mem_range->oG,eq_nil_of_length_eq_zero->dt,nodup_append->rZ,replicate->eP,mem_of_getElem?->jX,pairwise_append->BN,getElem?_set_ne->WS,getElem_mem->bS,nil_sublist->I9,not_mem_nil->tA,take_succ_eq_append_getElem->bK,drop_eq_getElem_cons->dk,flatMap_append->cw,flatMap_nil->eL,mem_singleton->cz,length_pos_iff->iC,getElem?_eq_getElem->bz,map_cons->fO,sum_cons->qy,map_congr_left->qz,eq_nil_or_concat->uZ,tail_cons->mf,set_cons_zero->bH,length_map->aW,map_append->dU,range_succ->oH,ext_getElem?->zc,map_singleton->zd,map_map->pD,map_id->ze,getElem_cons_zero->qA,append_eq_nil_iff->BT,getElem?_reverse->Fa,replicate_succ->OK,drop_one->zf,drop_left'->Jg,length_replicate->Jh,length_range->gq,mem_replicate->ah9,drop_length->OM,count_eq_zero->aia,isPrefixOf_iff_prefix->aib,concat_eq_append->Fc,drop_replicate->aid,getElem?_take_of_lt->ON,getElem?_set->aij
open List.Sublist renaming refl->zb
open List.cons renaming injEq->gp
open Nat renaming le_refl->aQ,le_trans->qu,zero_add->dR,add_mul->wE,zero_le->cE,mul_le_mul->mg,lt_of_le_of_lt->aie,div_le_self->Xd
open Option renaming map_some->gQ,map_map->tC
open Option.some renaming injEq->mR,inj->dT
open UInt8 renaming ofNat->aD,toNat_ofNat'->kt,toNat_inj->bL,toNat_lt->dm,ofNat_toNat->zg
namespace Go.Proofs.YtmoiobegbpkkbaaGreatDoor
open Go Go.RowKit
set_option maxRecDepth 100000
set_option maxHeartbeats 8000000
variable{W:ad}
variable{a n u e m fl l4 y k f D h:Nat}{α β:Type}{l b r raw t d:ab}{c:UInt8}{cs ks Z:au}{v:ao}{q s:Sl}{lo:Bool}{rs:bf}{P:Program}{T:List TD}{V w w0 V0:ad}{pal:List cd}{own:cx}
def eg(c:Nat):Prop:=c<55296\/(57343<c/\c<1114112)
instance(c:Nat):Decidable (eg c):=by unfold eg;infer_instance
def bR(c:Nat):ab :=
 if c<128 then[aD c]else if c<2048 then[aD (192+c/64),aD (128+c%64)]
 else if c<65536 then[aD (224+c/4096),aD (128+c/64%64),aD (128+c%64)]
 else[aD (240+c/262144),aD (128+c/4096%64),aD (128+c/64%64),aD (128+c%64)]
def kD(c:Nat):Nat:=if c<128 then 1 else if c<2048 then 2 else if c<65536 then 3 else 4
theorem vf(c:Nat):(bR c).length=kD c:=by
 unfold bR kD;split
 ·rfl
 split
 ·rfl
 split<;>rfl
theorem nP(c:Nat):1<=kD c/\kD c<=4:=by
 unfold kD;split
 ·omega
 split
 ·omega
 split<;>omega
def ji(a:Nat):Nat:=if a<128 then 1 else if a<192 then 0 else if a<224 then 2 else if a<240 then 3 else 4
def mI(a:Nat):Nat:=if a<128 then a else if a<192 then 0 else if a<224 then a-192 else if a<240 then a-224 else a-240
def nV(l:ab)(c0:Nat):Nat->Nat
 | 0=>c0
 | k+1=>64*nV l c0 k+(at8 l (k+1)-128)
theorem KA(l:ab)(c:Nat):nV l c 0=c:=rfl
theorem Gn(l:ab)(c:Nat):nV l c 1=64*c+(at8 l 1-128):=rfl
theorem Gp(l:ab)(c:Nat):nV l c 2=64*(64*c+(at8 l 1-128))+(at8 l 2-128):=rfl
theorem Gq(l:ab)(c:Nat):nV l c 3=64*(64*(64*c+(at8 l 1-128))+(at8 l 2-128))+(at8 l 3-128):=rfl
abbrev il(l:ab)(i:Nat):Prop:=128<=at8 l i/\at8 l i<192
structure CA(l:ab)(c n:Nat):Prop where
 pos:0<n
 le:n<=l.length
 tl:∀j,j<n->0<j->il l j
 ch:eg c
 sh:kD c=n
instance(l:ab)(c n:Nat):Decidable (CA l c n):=decidable_of_iff (0<n/\n<=l.length/\(∀j,j<n->0<j->il l j)/\eg c/\kD c=n) ⟨λ⟨a,b,c,d,e⟩=>⟨a,b,c,d,e⟩,λ⟨a,b,c,d,e⟩=>⟨a,b,c,d,e⟩⟩
def kv(l:ab):Nat:=nV l (mI (at8 l 0)) (ji (at8 l 0)-1)
def nh(l:ab):Option (Nat×Nat):=if CA l (kv l) (ji (at8 l 0))then some (kv l,ji (at8 l 0))else none
theorem oN{a:UInt8}(h:n=a.toNat):aD n=a:=by rw[h];exact zg
theorem Av{l:List α}(h:1<=l.length):∃a r,l=a::r:=by
 cases l with
 | nil=>simp at h
 | cons a r=>exact⟨a,r,rfl⟩
theorem xv{c:Nat}(h:nh l=some (c,n)):eg c/\kD c=n/\n<=l.length/\l.take n=bR c:=by
 unfold nh at h;split at h;rotate_left
 ·cases h
 rename_i hk;simp only[mR,Prod.mk.injEq]at h;obtain⟨h1,h2⟩:=h;rw[h1,h2]at hk;obtain⟨p0,p1,p2,p3,p4⟩:=hk;refine⟨p3,p4,p1,?_⟩;unfold kv at h1;rw[h2]at h1;unfold kD at p4;match l,p1 with
 | [],p1=>rw[aK]at p1;omega
 | a::r,p1 =>
  have ha:=a.toNat_lt;have e0:at8 (a::r) 0=a.toNat:=rfl;rw[e0]at h1 h2;have hn:n=1\/n=2\/n=3\/n=4:=by unfold ji at h2;split at h2<;>(try split at h2)<;>(try split at h2)<;>(try split at h2)<;>omega
  rcases hn with rfl|rfl|rfl|rfl
  ·rw[KA]at h1;unfold ji at h2;unfold mI at h1;unfold bR;have:a.toNat<128:=by
    split at h2
    ·assumption
    split at h2
    ·omega
    split at h2
    ·omega
    split at h2<;>omega
   rw[ag this]at h1;rw[ag aa];show[a]=_;rw[oN h1.symm]
  ·obtain⟨b,r,rfl⟩:=Av (show 1<=r.length by rw[aq]at p1;omega)
   ·have hb:=b.toNat_lt;obtain⟨t1,t2⟩:=p2 1 ai ai;have e1:at8 (a::b::r) 1=b.toNat:=rfl;rw[e1]at t1 t2;rw[show 2-1=1 from rfl,Gn,e1]at h1;have hh:192<=a.toNat/\a.toNat<224:=by
     unfold ji at h2;split at h2
     ·omega
     split at h2
     ·omega
     split at h2
     ·omega
     split at h2<;>omega
    unfold mI at h1;rw[ae aa,ae aa,ag aa]at h1;have hc:128<=c/\c<2048:=by
     split at p4
     ·omega
     split at p4
     ·omega
     split at p4<;>omega
    unfold bR;rw[ae aa,ag aa,oN (a:=a) aa,oN (a:=b) aa];rfl
  ·obtain⟨b,r,rfl⟩:=Av (show 1<=r.length by rw[aq]at p1;omega);obtain⟨d,r,rfl⟩:=Av (show 1<=r.length by rw[aq,aq]at p1;omega)
   ·have hb:=b.toNat_lt;obtain⟨t1,t2⟩:=p2 1 ai ai;obtain⟨t3,t4⟩:=p2 2 ai ai;have e1:at8 (a::b::d::r) 1=b.toNat:=rfl;have e2:at8 (a::b::d::r) 2=d.toNat:=rfl;rw[e1]at t1 t2;rw[e2]at t3 t4;rw[show 3-1=2 from rfl,Gp,e1,e2]at h1;have hh:224<=a.toNat/\a.toNat<240:=by
     unfold ji at h2;split at h2
     ·omega
     split at h2
     ·omega
     split at h2
     ·omega
     split at h2<;>omega
    unfold mI at h1;rw[ae aa,ae aa,ae aa,ag aa]at h1;have hc:2048<=c/\c<65536:=by
     split at p4
     ·omega
     split at p4
     ·omega
     split at p4<;>omega
    unfold bR;rw[ae aa,ae aa,ag aa,oN (a:=a) aa,oN (a:=b) aa,oN (a:=d) aa];rfl
  obtain⟨b,r,rfl⟩:=Av (show 1<=r.length by rw[aq]at p1;omega);obtain⟨d,r,rfl⟩:=Av (show 1<=r.length by rw[aq,aq]at p1;omega);obtain⟨e,r,rfl⟩:=Av (show 1<=r.length by rw[aq,aq,aq]at p1;omega)
  ·obtain⟨t1,t2⟩:=p2 1 ai ai;obtain⟨t3,t4⟩:=p2 2 ai ai;obtain⟨t5,t6⟩:=p2 3 ai ai;have e1:at8 (a::b::d::e::r) 1=b.toNat:=rfl;have e2:at8 (a::b::d::e::r) 2=d.toNat:=rfl;have e3:at8 (a::b::d::e::r) 3=e.toNat:=rfl;rw[e1]at t1 t2;rw[e2]at t3 t4;rw[e3]at t5 t6;rw[show 4-1=3 from rfl,Gq,e1,e2,e3]at h1;have hh:240<=a.toNat:=by
    unfold ji at h2;split at h2
    ·omega
    split at h2
    ·omega
    split at h2
    ·omega
    split at h2<;>omega
   unfold mI at h1;rw[ae aa,ae aa,ae aa,ae aa]at h1;have hc:65536<=c:=by
    split at p4
    ·omega
    split at p4
    ·omega
    split at p4<;>omega
   unfold eg at p3;unfold bR;rw[ae aa,ae aa,ae aa,oN (a:=a) aa,oN (a:=b) aa,oN (a:=d) aa,oN (a:=e) aa];rfl
theorem KN{c:Nat}(r:ab)(h:eg c):nh (bR c++r)=some (c,kD c):=by
 have key:kv (bR c++r)=c/\ji (at8 (bR c++r) 0)=kD c/\∀j,j<kD c->0<j->il (bR c++r) j:=by
  unfold eg at h;unfold bR kD kv;split
  ·rename_i h1;have e0:at8 ([aD c]++r) 0=c:=dB aa;have w:ji c=1:=by unfold ji;rw[ag h1]
   rw[e0,w];refine⟨?_,rfl,λj hj fe=>by omega⟩;rw[show 1-1=0 from rfl,KA];unfold mI;rw[ag h1]
  split
  ·rename_i h1 h2;have e0:at8 ([aD (192+c/64),aD (128+c%64)]++r) 0=192+c/64:=dB aa;have e1:at8 ([aD (192+c/64),aD (128+c%64)]++r) 1=128+c%64:=dB aa;have w:ji (192+c/64)=2:=by unfold ji;rw[ae aa,ae aa,ag aa]
   rw[e0,w];refine⟨?_,rfl,λj hj fe=>?_⟩
   ·rw[show 2-1=1 from rfl,Gn,e1];unfold mI;rw[ae aa,ae aa,ag aa];omega
   obtain rfl:j=1:=aa;unfold il;rw[e1];omega
  split
  ·rename_i h1 h2 h3;have e0:at8 ([aD (224+c/4096),aD (128+c/64%64),aD (128+c%64)]++r) 0=224+c/4096:=dB aa;have e1:at8 ([aD (224+c/4096),aD (128+c/64%64),aD (128+c%64)]++r) 1=128+c/64%64:=dB aa;have e2:at8 ([aD (224+c/4096),aD (128+c/64%64),aD (128+c%64)]++r) 2=128+c%64:=dB aa;have w:ji (224+c/4096)=3:=by unfold ji;rw[ae aa,ae aa,ae aa,ag aa]
   rw[e0,w];refine⟨?_,rfl,λj hj fe=>?_⟩
   ·rw[show 3-1=2 from rfl,Gp,e1,e2];unfold mI;rw[ae aa,ae aa,ae aa,ag aa];omega
   obtain rfl|rfl:j=1\/j=2:=aa
   ·unfold il;rw[e1];omega
   unfold il;rw[e2];omega
  rename_i h1 h2 h3;have e0:at8 ([aD (240+c/262144),aD (128+c/4096%64),aD (128+c/64%64),aD (128+c%64)]++r) 0=240+c/262144:=dB aa;have e1:at8 ([aD (240+c/262144),aD (128+c/4096%64),aD (128+c/64%64),aD (128+c%64)]++r) 1=128+c/4096%64:=dB aa;have e2:at8 ([aD (240+c/262144),aD (128+c/4096%64),aD (128+c/64%64),aD (128+c%64)]++r) 2=128+c/64%64:=dB aa;have e3:at8 ([aD (240+c/262144),aD (128+c/4096%64),aD (128+c/64%64),aD (128+c%64)]++r) 3=128+c%64:=dB aa;have w:ji (240+c/262144)=4:=by unfold ji;rw[ae aa,ae aa,ae aa,ae aa]
  rw[e0,w];refine⟨?_,rfl,λj hj fe=>?_⟩
  ·rw[show 4-1=3 from rfl,Gq,e1,e2,e3];unfold mI;rw[ae aa,ae aa,ae aa,ae aa];omega
  obtain rfl|rfl|rfl:j=1\/j=2\/j=3:=aa
  ·unfold il;rw[e1];omega
  ·unfold il;rw[e2];omega
  unfold il;rw[e3];omega
 obtain⟨k1,k2,k3⟩:=key;unfold nh;rw[k1,k2,ag ⟨by have:=nP c;omega,by rw[ak,vf];omega,k3,h,rfl⟩]
def vz:Nat->ab->Option au
 | 0,l=>if l=[]then some []else none
 | k+1,l=>if l=[]then some []else match nh l with
  | none=>none
  | some (c,n)=>(vz k (l.drop n)).map (c::·)
def chars(l:ab):Option au:=vz l.length l
theorem Rk:∀(n m:Nat) (l:ab),l.length<=n->l.length<=m->vz n l=vz m l
 | 0,m,l,h1,h2=>by have:l=[]:=dt aa;subst this;cases m<;>simp[vz]
 | n+1,0,l,h1,h2=>by have:l=[]:=dt aa;subst this;simp[vz]
 | n+1,m+1,l,h1,h2=>by
  simp only[vz];split
  ·rfl
  split
  ·rfl
  rename_i c k hk;obtain⟨_,q1,q2,_⟩:=xv hk;have:=nP c;rw[Rk n m _ (by rw[aU];omega) (by rw[aU];omega)]
theorem KP:chars []=some []:=rfl
theorem CU(h:l≠[]):chars l=match nh l with
  | none=>none
  | some (c,n)=>(chars (l.drop n)).map (c::·):=by
 have hp:=iC.2 h;unfold chars;obtain⟨k,hk⟩:∃k,l.length=k+1:=⟨l.length-1,aa⟩
 rw[hk,vz,ae h];split
 ·rfl
 rename_i c n e;obtain⟨_,q1,q2,_⟩:=xv e;have:=nP c;rw[Rk k (l.drop n).length _ (by rw[aU];omega) (aQ _)]
theorem GJ:∀(cs:au),(∀c∈cs,eg c)->chars (cs.flatMap bR)=some cs
 | [],_=>rfl
 | c::cs,h=>by
  have hc:=vf c;have:=nP c;rw[bD,CU,KN _ (h c ah)]
  ·simp only;rw[Jg hc,GJ cs λx hx=>h x (by simp[hx])];rfl
  intro e;have:=ax bU e;rw[ak,hc,aK]at this;omega
theorem Rl:∀(n:Nat) {l:ab} {cs:au},l.length<=n->chars l=some cs->(∀c∈cs,eg c)/\cs.flatMap bR=l
 | 0,l,cs,hl,h=>by have:l=[]:=dt aa;subst this;cases h;simp
 | n+1,l,cs,hl,h=>by
  by_cases hn:l=[]
  ·subst hn;cases h;simp
  rw[CU hn]at h;split at h
  ·cases h
  rename_i c k e;obtain⟨q1,q2,q3,q4⟩:=xv e;have:=nP c;cases hr:chars (l.drop k)with
  | none=>rw[hr]at h;cases h
  | some r =>
   rw[hr]at h;cases h;obtain⟨a1,a2⟩:=Rl n (by rw[aU];omega) hr;refine⟨λx hx=>?_,?_⟩
   ·rcases bP.1 hx with rfl|hx
    ·exact q1
    exact a1 x hx
   rw[bD,a2,<-q4,eW]
theorem GI :chars l=some cs↔(∀c∈cs,eg c)/\cs.flatMap bR=l:=by
 constructor
 ·exact Rl _ (aQ _)
 rintro⟨h1,h2⟩;rw[<-h2];exact GJ cs h1
def gE(c:Nat):au:=if c<65536 then[c]else[55296+(c-65536)/1024,56320+(c-65536)%1024]
abbrev hY(u:Nat):Prop:=56320<=u/\u<57344
abbrev iP(u:Nat):Prop:=55296<=u/\u<56320
def dY:au->Option au
 | []=>some []
 | [u]=>if hY u then none else if iP u then none else some [u]
 | u::v::r=>if hY u then none else if iP u then(if hY v then(dY r).map ((65536+1024*(u-55296)+(v-56320))::·)else none)else(dY (v::r)).map (u::·)
theorem Kg(h:hY u)(r:au):dY (u::r)=none:=by cases r<;>simp only[dY]<;>rw[ag h]
theorem Ki{v:Nat}(h:iP u)(hv:hY v)(r:au):dY (u::v::r)=(dY r).map ((65536+1024*(u-55296)+(v-56320))::·):=by rw[dY,ae (by unfold hY iP at *;omega),ag h,ag hv]
theorem zH(h:iP u)(r:au)(hr:∀v k,r=v::k->¬hY v):dY (u::r)=none:=by
 have h1:¬hY u:=by unfold hY iP at *;omega
 cases r with
 | nil=>simp only[dY];rw[ae h1,ag h]
 | cons v r=>simp only[dY];rw[ae h1,ag h,ae (hr v r rfl)]
theorem Kh(h1:¬hY u)(h2:¬iP u)(r:au):dY (u::r)=(dY r).map (u::·):=by
 cases r with
 | nil=>simp only[dY];rw[ae h1,ae h2];rfl
 | cons v r=>simp only[dY];rw[ae h1,ae h2]
theorem P9:∀(n:Nat) {us cs:au},us.length<=n->(∀u∈us,u<65536)->dY us=some cs->(∀c∈cs,eg c)/\cs.flatMap gE=us
 | 0,us,cs,hn,hu,h=>by have:us=[]:=dt aa;subst this;cases h;simp
 | n+1,[],cs,hn,hu,h=>by cases h;simp
 | n+1,u::r,cs,hn,hu,h=>by
  have k9:=hu u ah;have hur:∀x∈r,x<65536:=λx hx=>hu x (by simp[hx]);by_cases h1:hY u
  ·rw[Kg h1]at h;cases h
  by_cases h2:iP u
  ·match r,h with
   | [],h=>rw[zH h2 [] ah]at h;cases h
   | v::r,h =>
    by_cases h3:hY v;rotate_left
    ·rw[zH h2 (v::r) (λa k e=>by cases e;exact h3)]at h;cases h
    rw[Ki h2 h3]at h;cases hr:dY r with
    | none=>rw[hr]at h;cases h
    | some k =>
     rw[hr]at h;cases h;obtain⟨a1,a2⟩:=P9 n (by simp only[aq]at hn;omega) (λx hx=>hur x (by simp[hx])) hr;unfold hY iP at *;obtain⟨c,hc⟩:∃c,c=65536+1024*(u-55296)+(v-56320):=⟨_,rfl⟩
     rw[<-hc];refine⟨λx hx=>?_,?_⟩
     ·rcases bP.1 hx with hx|hx
      ·rw[hx];unfold eg;omega
      exact a1 x hx
     rw[bD,a2];unfold gE;rw[ae aa,show 55296+(c-65536)/1024=u by omega,show 56320+(c-65536)%1024=v by omega];rfl
  rw[Kh h1 h2]at h;cases hr:dY r with
  | none=>rw[hr]at h;cases h
  | some k =>
   rw[hr]at h;cases h;obtain⟨a1,a2⟩:=P9 n (by simp only[aq]at hn;omega) hur hr;unfold hY iP at *;refine⟨λx hx=>?_,?_⟩
   ·rcases bP.1 hx with rfl|hx
    ·unfold eg;omega
    exact a1 x hx
   rw[bD,a2];unfold gE;rw[ag aa];rfl
def j1(big:Bool)(l:ab)(k:Nat):Nat:=if big=true then 256*at8 l (2*k)+at8 l (2*k+1)else 256*at8 l (2*k+1)+at8 l (2*k)
def gV(big:Bool)(l:ab):au:=(bZ (l.length/2)).map (j1 big l)
theorem Kf(big:Bool)(l:ab)(k:Nat):j1 big l k<65536:=by have h1:at8 l (2*k)<256:=dm _;have h2:at8 l (2*k+1)<256:=dm _;unfold j1;split<;>omega
def dD(big:Bool)(u:Nat):ab:=if big=true then[aD (u/256),aD (u%256)]else[aD (u%256),aD (u/256)]
theorem vg(big:Bool)(u:Nat):(dD big u).length=2:=by unfold dD;split<;>rfl
theorem alJ(big:Bool)(a b:UInt8)(l:ab):gV big (a::b::l)=(if big=true then 256*a.toNat+b.toNat else 256*b.toNat+a.toNat)::gV big l:=by unfold gV;rw[show(a::b::l).length/2=l.length/2+1 by simp only[aq];omega,List.range_succ_eq_map,fO,pD];congr 1
theorem Za(big:Bool):∀(n:Nat) {l:ab},l.length=2*n->(gV big l).flatMap (dD big)=l
 | 0,l,h=>by have:l=[]:=dt aa;subst this;rfl
 | n+1,[],h=>by simp only[aK]at h;omega
 | n+1,[_],h=>by simp only[aq,aK]at h;omega
 | n+1,a::b::l,h=>by
  have ha:=a.toNat_lt;have hb:=b.toNat_lt;rw[alJ,bD,Za big n (by simp only[aq]at h;omega)];cases big
  ·simp only[sw,if_false,dD];rw[oN (a:=a) aa,oN (a:=b) aa];rfl
  simp only[if_true,dD];rw[oN (a:=a) aa,oN (a:=b) aa];rfl
abbrev oz:ab:=[239,187,191]
def gL(big:Bool)(b:ab):Option au:=if 2<=b.length/\b.length%2=0/\b.take 2=(if big=true then[254,255]else[255,254])then dY (gV big (b.drop 2))else none
def AH(b:ab):au×Nat:=match chars b with
 | some cs=>if cs.head?=some 65279 then(cs.tail,1)else(cs,0)
 | none=>(b.map UInt8.toNat,4)
def gO(b:ab):au×Nat:=match gL true b with
 | some cs=>(cs,2)
 | none=>match gL false b with
  | some cs=>(cs,3)
  | none=>AH b
def mD(e:Nat)(cs:au):fV :=
 if e=0 then some (cs.flatMap bR)else if e=1 then some (oz++cs.flatMap bR)
 else if e=2 then some ([254,255]++(cs.flatMap gE).flatMap (dD true))else if e=3 then some ([255,254]++(cs.flatMap gE).flatMap (dD false))
 else if ∀c∈cs,c<256 then some (cs.map aD)else none
theorem Y6{big:Bool}(h:gL big b=some cs):(∀c∈cs,eg c)/\b=(if big=true then[254,255]else[255,254])++(cs.flatMap gE).flatMap (dD big):=by
 unfold gL at h;by_cases hk:2<=b.length/\b.length%2=0/\b.take 2=(if big=true then[254,255]else[255,254])
 rotate_left
 ·rw[ae hk]at h;cases h
 rw[ag hk]at h;obtain⟨h1,h2,h3⟩:=hk;obtain⟨a1,a2⟩:=P9 _ (aQ _) (λu hu=>by obtain⟨k,_,rfl⟩:=cJ.1 hu;exact Kf _ _ _) h
 refine⟨a1,?_⟩;rw[a2,Za big ((b.length-2)/2) (by rw[aU];omega),<-h3,eW]
theorem LB(b:ab):mD (gO b).2 (gO b).1=some b/\(gO b).2<5/\(∀c∈(gO b).1,eg c):=by
 unfold gO;split
 ·rename_i cs h;obtain⟨h1,h2⟩:=Y6 h;refine⟨?_,show _<5 by simp only;omega,h1⟩;rw[h2];rfl
 split
 ·rename_i cs h;obtain⟨h1,h2⟩:=Y6 h;refine⟨?_,show _<5 by simp only;omega,h1⟩;rw[h2];rfl
 unfold AH;split
 ·rename_i cs h;obtain⟨h1,h2⟩:=GI.1 h;split
  ·rename_i hh;obtain⟨cs,rfl⟩:∃r,cs=65279::r:=by
    cases cs with
    | nil=>cases hh
    | cons c r=>cases hh;exact⟨r,rfl⟩
   refine⟨?_,show _<5 by simp only;omega,λc hc=>h1 c (by simp only[mf]at hc;simp[hc])⟩;rw[<-h2];rfl
  refine⟨?_,show _<5 by simp only;omega,h1⟩;rw[<-h2];rfl
 refine⟨?_,show _<5 by simp only;omega,λc hc=>?_⟩
 ·unfold mD;rw[ae (show ¬(4=0)by decide),ae (show ¬(4=1)by decide),ae (show ¬(4=2)by decide),ae (show ¬(4=3)by decide),ag]
  ·rw[pD];congr 1;conv=>rhs;rw[<-ze b]
   refine qz λx _=>?_;exact zg
  intro c hc;obtain⟨x,_,rfl⟩:=cJ.1 hc;exact x.toNat_lt
 obtain⟨x,_,rfl⟩:=cJ.1 hc;have:=x.toNat_lt;unfold eg;omega
def lines:au->au×au
 | []=>([],[])
 | [c]=>if c=10 then([10],[0])else if c=13 then([10],[2])else([c],[])
 | c::d::r=>if c=13/\d=10 then(10::(lines r).1,1::(lines r).2)
  else if c=10 then(10::(lines (d::r)).1,0::(lines (d::r)).2)else if c=13 then(10::(lines (d::r)).1,2::(lines (d::r)).2)else(c::(lines (d::r)).1,(lines (d::r)).2)
theorem Es(r:au):lines (13::10::r)=(10::(lines r).1,1::(lines r).2):=by simp only[lines];rw[ag ⟨trivial,trivial⟩]
theorem Et(r:au):lines (10::r)=(10::(lines r).1,0::(lines r).2):=by
 cases r with
 | nil=>rfl
 | cons d r=>simp only[lines];rw[ae aa,ag trivial]
theorem Bh{r:au}(h:∀k,r≠10::k):lines (13::r)=(10::(lines r).1,2::(lines r).2):=by
 cases r with
 | nil=>rfl
 | cons d r=>simp only[lines];rw[ae (λe=>h r (by rw[e.2])),ae ai,ag trivial]
theorem Eu{c:Nat}(h1:c≠10)(h2:c≠13)(r:au):lines (c::r)=(c::(lines r).1,(lines r).2):=by
 cases r with
 | nil=>simp only[lines];rw[ae h1,ae h2]
 | cons d r=>simp only[lines];rw[ae (λe=>h2 e.1),ae h1,ae h2]
def De(k:Nat):au:=if k=0 then[10]else if k=1 then[13,10]else[13]
def iU:au->au->Option au
 | [],[]=>some []
 | [],_::_=>none
 | c::r,ks=>if c=10 then(match ks with
   | []=>none
   | k::ks=>(iU r ks).map (De k++·))else(iU r ks).map (c::·)
theorem Er:∀(n:Nat) (l:au),l.length<=n->iU (lines l).1 (lines l).2=some l/\(∀k∈(lines l).2,k<3)/\(lines l).2.length<=l.length/\(lines l).1.length<=l.length/\(∀c∈(lines l).1,c=10\/c∈l)
 | 0,l,h=>by have:l=[]:=dt aa;subst this;exact⟨rfl,by simp[lines],aQ _,aQ _,by simp[lines]⟩
 | n+1,[],h=>⟨rfl,by simp[lines],aQ _,aQ _,by simp[lines]⟩
 | n+1,c::r,h=>by
  have hr:r.length<=n:=by simpa using h
  obtain⟨a1,a2,a3,a4,a5⟩:=Er n r hr;by_cases h1:c=10
  ·subst h1;rw[Et];refine⟨?_,?_,by simp only[aq];omega,by simp only[aq];omega,?_⟩
   ·simp only[iU,if_true,a1];rfl
   ·intro k hk;rcases bP.1 hk with rfl|hk
    ·decide
    exact a2 k hk
   intro c hc;rcases bP.1 hc with rfl|hc
   ·exact .inl rfl
   rcases a5 c hc with h|h
   ·exact .inl h
   exact .inr (by simp[h])
  by_cases h2:c=13
  ·subst h2;by_cases h3:∃k,r=10::k
   ·obtain⟨r,rfl⟩:=h3;obtain⟨a1,a2,a3,a4,a5⟩:=Er n r (by simp at hr;omega);rw[Es];refine⟨?_,?_,by simp only[aq];omega,by simp only[aq];omega,?_⟩
    ·simp only[iU,if_true,a1];rfl
    ·intro k hk;rcases bP.1 hk with rfl|hk
     ·decide
     exact a2 k hk
    intro c hc;rcases bP.1 hc with rfl|hc
    ·exact .inl rfl
    rcases a5 c hc with h|h
    ·exact .inl h
    exact .inr (by simp[h])
   rw[Bh (λk e=>h3 ⟨k,e⟩)];refine⟨?_,?_,by simp only[aq];omega,by simp only[aq];omega,?_⟩
   ·simp only[iU,if_true,a1];rfl
   ·intro k hk;rcases bP.1 hk with rfl|hk
    ·decide
    exact a2 k hk
   intro c hc;rcases bP.1 hc with rfl|hc
   ·exact .inl rfl
   rcases a5 c hc with h|h
   ·exact .inl h
   exact .inr (by simp[h])
  rw[Eu h1 h2];refine⟨?_,a2,by simp only[aq];omega,by simp only[aq];omega,?_⟩
  ·simp only[iU,a1];rw[ae h1];rfl
  intro x hx;rcases bP.1 hx with rfl|hx
  ·exact .inr ah
  rcases a5 x hx with h|h
  ·exact .inl h
  exact .inr (by simp[h])
theorem NM:∀(n:Nat) (l:au),l.length<=n->(∀k∈(lines l).2,k=0)->(lines l).1=l
 | 0,l,h,_=>by have:l=[]:=dt aa;subst this;rfl
 | n+1,[],h,_=>rfl
 | n+1,c::r,h,hk=>by
  have hr:r.length<=n:=by simpa using h
  by_cases h1:c=10
  ·subst h1;rw[Et]at hk |-;rw[NM n r hr λk h=>hk k (by simp[h])]
  by_cases h2:c=13
  ·subst h2;by_cases h3:∃k,r=10::k
   ·obtain⟨r,rfl⟩:=h3;rw[Es]at hk;exact absurd (hk 1 ah) ai
   rw[Bh (λk e=>h3 ⟨k,e⟩)]at hk;exact absurd (hk 2 ah) ai
  rw[Eu h1 h2]at hk |-;rw[NM n r hr hk]
abbrev eA:=Nat×Nat
def cL:au->List eA
 | []=>[]
 | k::ks=>match cL ks with
  | (j,n)::r=>if k=j then(j,n+1)::r else(k,1)::(j,n)::r
  | []=>[(k,1)]
def eZ(rs:List eA):au:=rs.flatMap λr=>eP r.2 r.1
def sI(p:Nat):List eA->Prop
 | []=>True
 | r::rs=>r.1<3/\1<=r.2/\r.1≠p/\sI r.1 rs
def ij(rs:List eA):Nat:=(rs.map (·.2)).sum
theorem nJ:∀(ks:au),eZ (cL ks)=ks/\(cL ks).head?.map (·.1)=ks.head?/\((∀k∈ks,k<3)->∀p,ks.head?≠some p->sI p (cL ks))/\ij (cL ks)=ks.length/\(cL ks).length<=ks.length
 | []=>⟨rfl,rfl,λ_ _ _=>trivial,rfl,aQ _⟩
 | k::ks=>by
  obtain⟨a1,a2,a3,a4,a5⟩:=nJ ks;unfold cL;split
  ·rename_i j n r hr;rw[hr]at a1 a2 a3 a4 a5;have hj:ks.head?=some j:=a2.symm;split
   ·rename_i e;subst e;refine⟨?_,rfl,λh p hp=>?_,?_,?_⟩
    ·unfold eZ at a1 |-;rw[bD]at a1 |-;simp only[OK,bb]at a1 |-;rw[a1]
    ·have:=a3 (λx hx=>h x (by simp[hx])) 3 (by rw[hj];have:=h k ah;simp;omega);obtain⟨b1,b2,_,b4⟩:=this;exact⟨b1,ah,λe=>hp (by rw[<-e];rfl),b4⟩
    ·unfold ij at a4 |-;simp only[fO,qy,aq]at a4 |-;omega
    simp only[aq]at a5 |-;omega
   rename_i e;refine⟨?_,rfl,λh p hp=>?_,?_,?_⟩
   ·unfold eZ at a1 |-;rw[bD,a1];rfl
   ·have:=a3 (λx hx=>h x (by simp[hx])) k (by rw[hj];simp;exact λq=>e q.symm);exact⟨h k ah,aQ _,λe=>hp (by rw[<-e];rfl),this⟩
   ·unfold ij at a4 |-;simp only[fO,qy,aq]at a4 |-;omega
   simp only[aq]at a5 |-;omega
  rename_i hr;rw[hr]at a1 a4;refine⟨?_,rfl,λh p hp=>⟨h k ah,aQ _,λe=>hp (by rw[<-e];rfl),trivial⟩,?_,ah⟩
  ·rw[<-a1];rfl
  unfold ij at a4 |-;simp only[fO,qy,aq,List.map_nil,List.sum_nil]at a4 |-;omega
theorem XV:∀(n k:Nat) (ks:au),ks.head?≠some k->cL (eP (n+1) k++ks)=(k,n+1)::cL ks
 | 0,k,ks,h=>by
  show(match cL ks with|(j,n)::r=>if k=j then(j,n+1)::r else(k,1)::(j,n)::r|[]=>[(k,1)])=_;have h2:=(nJ ks).2.1;cases hr:cL ks with
  | nil=>rfl
  | cons x r =>obtain⟨j,n⟩:=x;rw[hr]at h2;simp only;rw[ae];rintro rfl;exact h h2.symm
 | n+1,k,ks,h=>by rw[OK,bb,cL,XV n k ks h];simp
theorem XT:∀(rs:List eA) (p:Nat),sI p rs->cL (eZ rs)=rs/\(eZ rs).head?=rs.head?.map (·.1)/\(∀k∈eZ rs,k<3)/\(eZ rs).length=ij rs
 | [],_,_=>⟨rfl,rfl,by simp[eZ],rfl⟩
 | (k,n)::rs,p,h=>by
  obtain⟨h1,h2,h3,h4⟩:=h;obtain⟨a1,a2,a3,a4⟩:=XT rs k h4;obtain⟨m,rfl⟩:∃m,n=m+1:=⟨n-1,by dsimp only at h2;omega⟩
  have e:eZ ((k,m+1)::rs)=eP (m+1) k++eZ rs:=rfl;have hh:(eZ rs).head?≠some k:=by
   rw[a2];cases rs with
   | nil=>simp
   | cons r rs=>simp only[List.head?_cons,gQ];intro q;exact h4.2.2.1 (dT q)
  rw[e,XV _ _ _ hh,a1];refine⟨rfl,rfl,λx hx=>?_,?_⟩
  ·rcases cc.1 hx with hx|hx
   ·rw[(ah9.1 hx).2];exact h1
   exact a3 x hx
  rw[ak,Jh,a4];rfl
abbrev bV:=Int×Int
abbrev eY(r:eA):bV:=((r.1:Int),(r.2:Int))
def aX(rs:List eA):List bV:=rs.map eY
def gD(r:bV):ab:=az r.1++az r.2
def kx(l:ab)(p:Nat):lE bV :=
 match fN l p with
 | .bad c i=>.bad c i
 | .ok n q=>match fN l q with
  | .bad c i=>.bad c i
  | .ok m r=>.ok (n,m) r
theorem ajs{x:bV}(h1:cY x.1)(h2:cY x.2){l r:ab}{p:Nat}(hp:p<=l.length)(h:l.drop p=gD x++r):kx l p=.ok x (p+(gD x).length):=by
 have e:l=l.take p++(gD x++r):=by rw[<-h,eW]
 have hpl:(l.take p).length=p:=by simp;omega
 unfold gD at e;have n1:=mM h1.1 h1.2 (l.take p) (az x.2++r);rw[hpl,show l.take p++(az x.1++(az x.2++r))=l by rw[bj]at e;exact e.symm]at n1;have n2:=mM h2.1 h2.2 (l.take p++az x.1) r;rw[show l.take p++az x.1++(az x.2++r)=l by rw[bj]at e |-;exact e.symm,ak,hpl]at n2;unfold kx;rw[n1];simp only;rw[n2];simp only[gD,ak];congr 1;omega
theorem JH{p q:Nat}{x:bV}(hp:p<=l.length)(h:kx l p=.ok x q):p+2<=q/\q<=l.length/\l.drop p=gD x++l.drop q/\cY x.1/\cY x.2:=by
 unfold kx at h;split at h
 ·cases h
 rename_i n q1 h1;split at h
 ·cases h
 rename_i m r h2;cases h;obtain⟨a1,a2,_,a3⟩:=rR hp h1;have a4:=ID hp h1;obtain⟨b1,b2,_,b3⟩:=rR aa h2;have b4:=ID aa h2;refine⟨aa,b2,?_,a3,b3⟩;rw[a4,b4,gD,bj]
def kn(left p:Int):List bV->Bool
 | []=>true
 | x::r=>decide (0<=x.1/\x.1<3/\1<=x.2/\x.2<=left/\x.1≠p)&&kn (left-x.2) x.1 r
def pw(left:Int):List bV->Int
 | []=>left
 | x::r=>pw (left-x.2) r
def tp(p:Int):List bV->Int
 | []=>p
 | x::r=>tp x.1 r
theorem Oc:∀(l k:List bV) (a p:Int),kn a p (l++k)=(kn a p l&&kn (pw a l) (tp p l) k)
 | [],_,_,_=>by simp[kn,pw,tp]
 | x::l,k,a,p=>by simp only[bb,kn,pw,tp,Oc l k,Bool.and_assoc]
theorem Vf:∀(l:List bV) (a:Int) (x:bV),pw a (l++[x])=pw a l-x.2
 | [],_,_=>rfl
 | _::l,_,x=>Vf l _ x
theorem U8:∀(l:List bV) (p:Int) (x:bV),tp p (l++[x])=x.1
 | [],_,_=>rfl
 | _::l,_,x=>U8 l _ x
theorem VZ:∀ {l:List bV} {a p:Int},kn a p l=true->0<=a->(l.length:Int)<=a/\0<=pw a l/\pw a l<=a
 | [],a,_,_,h=>⟨by simpa using h,h,Int.le_refl _⟩
 | x::l,a,p,h,h0=>by simp only[kn,eD,eQ]at h;obtain⟨⟨h1,h2,h3,h4,_⟩,h5⟩:=h;obtain⟨g1,g2,g3⟩:=VZ h5 aa;simp only[aq,pw];refine⟨aa,g2,aa⟩
theorem agX{l k:List bV}{a p:Int}{x:bV}(h:¬(0<=x.1/\x.1<3/\1<=x.2/\x.2<=pw a l/\x.1≠tp p l)):kn a p (l++x::k)=false:=by rw[Oc,kn,bA h];simp
theorem Od:∀ {l:List bV} {a:Int} {p:Nat},kn a p l=true->0<=a->∃rs,l=aX rs/\sI p rs/\(ij rs:Int)<=a
 | [],a,p,_,h=>⟨[],rfl,trivial,by simpa [ij]using h⟩
 | x::l,a,p,h,h0=>by
  simp only[kn,eD,eQ]at h;obtain⟨⟨h1,h2,h3,h4,h6⟩,h5⟩:=h;obtain⟨k,n⟩:=x;dsimp only at h1 h2 h3 h4 h5 h6;obtain⟨k,rfl⟩:∃j:Nat,k=j:=⟨k.toNat,aa⟩
  obtain⟨n,rfl⟩:∃j:Nat,n=j:=⟨n.toNat,aa⟩
  obtain⟨rs,g1,g2,g3⟩:=Od h5 aa;refine⟨(k,n)::rs,by rw[g1];rfl,⟨by show k<3;omega,by show 1<=n;omega,by show k≠p;omega,g2⟩,?_⟩;have:ij ((k,n)::rs)=n+ij rs:=by simp[ij]
  rw[this];omega
theorem Wb:∀ {rs:List eA} {a:Int} {p:Nat},sI p rs->(ij rs:Int)<=a->kn a p (aX rs)=true
 | [],_,_,_,_=>rfl
 | (k,n)::rs,a,p,h,ha=>by
  obtain⟨h1,h2,h3,h4⟩:=h;dsimp only at h1 h2 h3 h4;have e:ij ((k,n)::rs)=n+ij rs:=by simp[ij]
  rw[e]at ha;show(decide (0<=(k:Int)/\(k:Int)<3/\1<=(n:Int)/\(n:Int)<=a/\(k:Int)≠p)&&kn (a-n) k (aX rs))=true;rw[Wb h4 aa,bw aa];rfl
theorem B9:∀ {rs:List eA} {p:Nat},sI p rs->rs.length<=ij rs/\∀r∈rs,r.1<3/\r.2<=ij rs
 | [],_,_=>⟨aQ _,ah⟩
 | (k,n)::rs,p,h=>by
  obtain⟨h1,h2,h3,h4⟩:=h;obtain⟨g1,g2⟩:=B9 h4;have e:ij ((k,n)::rs)=n+ij rs:=by simp[ij]
  dsimp only at h1 h2;rw[e];refine⟨by simp only[aq];omega,λr hr=>?_⟩;rcases bP.1 hr with rfl|hr
  ·exact⟨h1,by dsimp only;omega⟩
  have:=g2 r hr;exact⟨this.1,aa⟩
abbrev NX(r:bV):eA:=(r.1.toNat,r.2.toNat)
theorem NY(rs:List eA):(aX rs).map NX=rs:=by
 unfold aX;rw[pD];conv=>rhs;rw[<-ze rs]
 exact qz λx _=>by obtain⟨a,b⟩:=x;simp
def tP(b:ab):Option (Nat×List eA):=match fN b 0 with
 | .bad _ _=>none
 | .ok e p=>if e<0\/5<=e then none else match iZ b (kx b) b.length p with
  | .bad _ _=>none
  | .ok rs q=>if q≠b.length then none else if kn 1000 3 rs=true then some (e.toNat,rs.map NX)else none
def fX(e:Nat)(ks:au):Bool:=decide (e=0)&&ks.all (· == 0)
def lU(b:ab):Option (Nat×List eA):=if b=[]then some (0,[])else match tP b with
 | none=>none
 | some (e,rs)=>if fX e (eZ rs)=true then none else some (e,rs)
def nO(e:Nat)(rs:List eA):ab:=az e++cm gD (aX rs)
def lV(e:Nat)(ks:au):ab:=if fX e ks=true then[]else nO e (cL ks)
theorem ajt(x:bV):2<=(gD x).length:=by have:=qq (zz x.1);have:=qq (zz x.2);simp only[gD,az,ak];omega
theorem SZ:∀(l:List bV),2*l.length<=(l.flatMap gD).length
 | []=>aQ _
 | x::l=>by have:=SZ l;have:=ajt x;rw[bD,ak,aq];omega
theorem P3(e:Nat)(rs:List eA):nO e rs≠[]:=by intro h;have:=ax bU h;have:=qq (zz (e:Int));simp only[nO,az,ak,aK]at *;omega
theorem alr{rs:List eA}(he:e<5)(ho:sI 3 rs)(hs:ij rs<=1000):tP (nO e rs)=some (e,rs):=by
 obtain⟨b,hb⟩:∃b,b=nO e rs:=⟨_,rfl⟩
 rw[<-hb];unfold nO at hb;obtain⟨g1,g2⟩:=B9 ho;have dK:(aX rs).length=rs.length:=by simp[aX]
 have n1:=mM (n:=(e:Int)) aa aa [] (cm gD (aX rs));simp only[aL,<-hb,aK,dR]at n1;have n2:=mM (n:=((aX rs).length:Int)) aa aa (az (e:Int)) ((aX rs).flatMap gD);have hb2:az (e:Int)++(az ((aX rs).length:Int)++(aX rs).flatMap gD)=b:=hb.symm;rw[hb2]at n2;have Ms:=ax bU hb2;simp only[ak]at Ms;have n3:=Bl (f:=gD) (b:=b) (one:=kx b) (aX rs) ((az (e:Int)).length+(az ((aX rs).length:Int)).length) aa (λx hx q r hq h=>by obtain⟨y,hy,rfl⟩:=cJ.1 hx;have:=g2 y hy;exact ajs (by constructor<;>dsimp only<;>omega) (by constructor<;>dsimp only<;>omega) hq h) [] (by rw[<-hb2,<-bj,<-ak,kN];simp)
 have h2:=SZ (aX rs);have n4:iZ b (kx b) b.length (az (e:Int)).length=.ok (aX rs) b.length:=by unfold iZ;rw[n2];simp only;rw[ae aa,jr,n3];congr 1;omega
 unfold tP;rw[n1];simp only;rw[ae aa,n4];simp only;have ho3:kn 1000 3 (aX rs)=true:=Wb (p:=3) ho aa;rw[ae ah,ag ho3,NY,jr]
theorem als{rs:List eA}(h:tP b=some (e,rs)):e<5/\sI 3 rs/\ij rs<=1000/\b=nO e rs:=by
 unfold tP at h;split at h
 ·cases h
 rename_i e' p h1;split at h
 ·cases h
 rename_i h2;split at h
 ·cases h
 rename_i l q h3;split at h
 ·cases h
 rename_i h4;split at h;rotate_left
 ·cases h
 rename_i h5;simp only[mR,Prod.mk.injEq]at h;obtain⟨rfl,rfl⟩:=h;obtain⟨rs,rfl,g2,g3⟩:=Od (p:=3) h5 ai;rw[NY];refine⟨aa,g2,aa,?_⟩;have s1:=ID (cE _) h1;obtain⟨p1,p2,_⟩:=rR (cE _) h1;rw[List.drop_zero]at s1;unfold iZ at h3;split at h3
 ·cases h3
 rename_i n q1 h6;split at h3
 ·cases h3
 rename_i h7;have s2:=ID p2 h6;obtain⟨p3,p4,_⟩:=rR p2 h6;obtain⟨m1,m2,m3,m4⟩:=NT (f:=gD) (b:=b) (one:=kx b) (λp q x hp h=>by obtain⟨a1,a2,a3,_⟩:=JH hp h;exact⟨aa,a2,a3⟩) _ _ _ _ p4 h3
 have e1:(e'.toNat:Int)=e':=aa;have e2:((aX rs).length:Int)=n:=aa;have e3:q=b.length:=Decidable.not_not.1 h4;unfold nO cm;rw[e1,e2];rw[s2,m4,e3,OM,aZ]at s1;exact s1
theorem Y4{rs:List eA}(h:lU b=some (e,rs)):e<5/\sI 3 rs/\ij rs<=1000/\b=lV e (eZ rs)/\(b=[]↔fX e (eZ rs)=true):=by
 unfold lU at h;split at h
 ·rename_i hb;cases h;subst hb;exact⟨ai,trivial,ai,rfl,by simp[fX,eZ]⟩
 rename_i hb;split at h
 ·cases h
 rename_i e' rs' h1;split at h
 ·cases h
 rename_i h2;cases h;obtain⟨a1,a2,a3,a4⟩:=als h1;refine⟨a1,a2,a3,?_,λq=>absurd q hb,λq=>absurd q h2⟩;unfold lV;rw[ae h2,(XT rs 3 a2).1];exact a4
theorem Y3(he:e<5)(hk:∀k∈ks,k<3)(hl:ks.length<=1000):lU (lV e ks)=some (if fX e ks=true then(0,[])else(e,cL ks)):=by
 obtain⟨r1,r2,r3,r4,r5⟩:=nJ ks;have ho:=r3 hk 3 (by
  cases ks with
  | nil=>simp
  | cons k ks=>have:=hk k ah;simp;omega)
 unfold lV;split
 ·rfl
 rename_i ht;unfold lU;rw[ae (P3 _ _),alr he ho aa];simp only;rw[r1,ae ht]
abbrev mB(c:Nat):Prop:=(c<32/\c≠9/\c≠10/\c≠13)\/(127<=c/\c<160)
abbrev kC(b:ab):ao:=.mk 2 0 b [] []
def iH(b:ab):Option (ao×ab):=if(gO b).1.any (λc=>decide (mB c))=true then none else
 some (kC ((lines (gO b).1).1.flatMap bR),lV (gO b).2 (lines (gO b).1).2)
def tQ(v:ao):fV:=if v.kind=2 then some v.bytes else none
def zG(b:ab)(rs:List eA)(l:au):Option au:=if b=[]then some l else iU l (eZ rs)
def ve(t b:ab):fV:=match lU b with
 | none=>none
 | some (e,rs)=>match chars t with
  | none=>none
  | some l=>match zG b rs l with
   | none=>none
   | some cs=>mD e cs
noncomputable def oM(v:ao)(b:ab):fV:=match tQ v with
 | none=>none
 | some t=>match ve t b with
  | none=>none
  | some o=>open Classical in if o.length<=1000/\iH o=some (v,b)then some o else none
theorem Tb:cs.length<=(cs.flatMap bR).length:=by
 induction cs with
 | nil=>exact aQ _
 | cons c cs ih =>have:=nP c;rw[bD,ak,aq,vf];omega
theorem LJ(big:Bool):∀ {cs:au},(∀c∈cs,eg c)->cs.length<=((cs.flatMap gE).flatMap (dD big)).length/\(cs.flatMap bR).length<=2*((cs.flatMap gE).flatMap (dD big)).length
 | [],_=>⟨aQ _,aQ _⟩
 | c::cs,h=>by
  obtain⟨h1,h2⟩:=LJ big (cs:=cs) λx hx=>h x (by simp[hx]);have hn:=nP c;have hu:2<=((gE c).flatMap (dD big)).length:=by
   unfold gE;split
   ·simp[vg]
   simp[vg]
  rw[bD,bD,cw,ak,ak,aq,vf];omega
theorem Lk(h:∀c∈cs,eg c)(he:mD e cs=some b):cs.length<=b.length/\(cs.flatMap bR).length<=2*b.length:=by
 have h0:=Tb (cs:=cs);unfold mD at he;split at he
 ·cases he;omega
 split at he
 ·cases he;rw[ak];omega
 split at he
 ·cases he;obtain⟨a1,a2⟩:=LJ true h;rw[ak];omega
 split at he
 ·cases he;obtain⟨a1,a2⟩:=LJ false h;rw[ak];omega
 split at he
 ·rename_i hall;cases he;have:∀(cs:au),(∀c∈cs,c<256)->(cs.flatMap bR).length<=2*cs.length:=by
   intro cs;induction cs with
   | nil=>intro _;exact aQ _
   | cons c cs ih =>intro hh;have:=ih λx hx=>hh x (by simp[hx]);have hc:=hh c ah;rw[bD,ak,aq,vf];unfold kD;rw[ag (show c<2048 by omega)];split<;>omega
  have:=this cs hall;rw[aW];omega
 cases he
theorem NN:∀(n:Nat) (l:au),l.length<=n->((lines l).1.flatMap bR).length<=(l.flatMap bR).length
 | 0,l,h=>by have:l=[]:=dt aa;subst this;exact aQ _
 | n+1,[],h=>aQ _
 | n+1,c::r,h=>by
  have hr:r.length<=n:=by simpa using h
  have ih:=NN n r hr;have h10:(bR 10).length=1:=rfl;have j7:(bR 13).length=1:=rfl;by_cases h1:c=10
  ·subst h1;rw[Et,bD,bD,ak,ak];omega
  by_cases h2:c=13
  ·subst h2;by_cases h3:∃k,r=10::k
   ·obtain⟨r,rfl⟩:=h3;have ih:=NN n r (by simp at hr;omega);rw[Es,bD,bD,bD,ak,ak,ak];omega
   rw[Bh (λk e=>h3 ⟨k,e⟩),bD,bD,ak,ak];omega
  rw[Eu h1 h2,bD,bD,ak,ak];omega
structure QF(b:ab)(v:ao)(r:ab)(cs:au)(e:Nat):Prop where
 eq:gO b=(cs,e)
 enc:mD e cs=some b
 e5:e<5
 ch:∀c∈cs,eg c
 val:v=kC ((lines cs).1.flatMap bR)
 res:r=lV e (lines cs).2
 k3:∀k∈(lines cs).2,k<3
 kl:(lines cs).2.length<=b.length
 vl:((lines cs).1.flatMap bR).length<=2*b.length
 chars:chars ((lines cs).1.flatMap bR)=some (lines cs).1
 back:iU (lines cs).1 (lines cs).2=some cs
 plain:fX e (lines cs).2=true->(lines cs).1=cs/\e=0
theorem P4(h:iH b=some (v,r)):∃cs e,QF b v r cs e:=by
 unfold iH at h;split at h
 ·cases h
 simp only[mR,Prod.mk.injEq]at h;obtain⟨h1,h2⟩:=h;obtain⟨g1,g2,g3⟩:=LB b;generalize hf:gO b=x at *;obtain⟨cs,e⟩:=x;dsimp only at h1 h2 g1 g2 g3;obtain⟨a1,a2,a3,a4,a5⟩:=Er _ cs (aQ _);obtain⟨l1,l2⟩:=Lk g3 g1;have l3:=NN _ cs (aQ _);refine⟨cs,e,hf,g1,g2,g3,h1.symm,h2.symm,a2,aa,aa,GJ _ λc hc=>?_,a1,λht=>?_⟩
 ·rcases a5 c hc with h|h
  ·subst h;unfold eg;omega
  exact g3 c h
 unfold fX at ht;simp only[eD,eQ,bc,beq_iff_eq]at ht;exact⟨NM _ cs (aQ _) ht.2,ht.1⟩
theorem alw(b:ab):tQ (kC b)=some b:=rfl
theorem aly(hl:b.length<=1000)(T:QF b v r cs e):ve ((lines cs).1.flatMap bR) r=some b:=by
 have hk:=T.kl;have hrd:=Y3 T.e5 T.k3 aa;rw[<-T.res]at hrd;unfold ve;rw[hrd];by_cases ht:fX e (lines cs).2=true
 ·obtain⟨p1,p2⟩:=T.plain ht;rw[ag ht];simp only;rw[T.chars];simp only;have hr:r=[]:=by rw[T.res,lV,ag ht]
  rw[zG,ag hr];simp only;rw[p1,<-T.enc,p2]
 rw[ae ht];simp only;rw[T.chars];simp only;have hr:r≠[]:=by rw[T.res,lV,ae ht];exact P3 _ _
 rw[zG,ae hr,(nJ _).1,T.back];exact T.enc
theorem Y5(hl:b.length<=1000)(h:iH b=some (v,r)):oM v r=some b:=by obtain⟨cs,e,T⟩:=P4 h;unfold oM;rw[T.val,alw];simp only;rw[aly hl T];simp only;rw[ag ⟨hl,by rw[<-T.val];exact h⟩]
theorem acG(b:ab):enc (kC b)=az 2++eh b:=by rw[Ay];simp only[ao.kind,ao.num,ao.bytes,ao.names,ao.parts];rw[ae ai,ag trivial]
theorem abx(b:ab):gz 0 (kC b) 0=.ok 1:=by
 have e:pre 0 (kC b)=[(kC b,0)]:=by rw[wB];simp
 have n2:dP (kC b)=0:=by simp[dP,jA,ao.kind,ao.num,ao.bytes,ao.names,ao.parts]
 unfold gz;rw[e];simp[scan,gy,n2]
theorem ZE(h3:b.length<=3000):ct (kC b)=(0,0):=by have hl:=ax bU (acG b);have a3:=rW (b:=b) aa;have a10:=dq (n:=2) ai ai;simp only[ak]at hl;unfold ct;rw[abx];simp only;rw[ae aa]
abbrev Vu:ab:=[101,110,99,111,100,105,110,103]
abbrev Vs:ab:=[99,97,114,114,105,97,103,101,32,114,101,116,117,114,110,32,97,110,100,32,108,105,110,101,32,102,101,101,100]
abbrev Vt:ab:=[99,97,114,114,105,97,103,101,32,114,101,116,117,114,110]
def yP(s:ab)(n:Nat):List pN:=if 0<n then[(s,(n:Int))]else[]
def FX(e:Nat)(ks:au):List pN:=yP Vu e++yP Vs (ks.count 1)++yP Vt (ks.count 2)
def Y1(b:ab):Option (List pN):=match lU b with
 | none=>none
 | some (e,rs)=>some (FX e (eZ rs))
theorem NR{s:ab}:yP s n=[]↔n=0:=by
 unfold yP;split
 ·rename_i h;exact⟨λq=>(by cases q),λq=>aa⟩
 rename_i h;exact⟨λ_=>by omega,λ_=>rfl⟩
theorem Y2(e:Nat)(ks:au):(FX e ks).length<=4:=by
 have h:∀s n,(yP s n).length<=1:=λs n=>by unfold yP;split<;>simp
 have:=h Vu e;have:=h Vs (ks.count 1);have:=h Vt (ks.count 2);simp only[FX,ak];omega
theorem alq(hk:∀k∈ks,k<3):FX e ks=[]↔fX e ks=true:=by
 unfold FX fX;rw[BT,BT,NR,NR,NR,aia,aia];simp only[eD,eQ,bc,beq_iff_eq];constructor
 ·rintro⟨⟨h1,h2⟩,h3⟩;refine⟨h1,λk hm=>?_⟩;have:=hk k hm;have:k≠1:=λe=>h2 (e▸hm);have:k≠2:=λe=>h3 (e▸hm);omega
 rintro⟨h1,h2⟩;exact⟨⟨h1,λhm=>absurd (h2 1 hm) ai⟩,λhm=>absurd (h2 2 hm) ai⟩
theorem aju{x:eA}(h1:x.1<3)(h2:x.2<=1000):(gD (eY x)).length<=20:=by have a1:=dq (n:=(x.1:Int)) aa aa;have a2:=dq (n:=(x.2:Int)) aa aa;simp only[gD,ak];omega
theorem alu(he:e<5)(hk:∀k∈ks,k<3)(hl:ks.length<=1000):(lV e ks).length<=100000:=by
 obtain⟨r1,r2,r3,r4,r5⟩:=nJ ks;have ho:=r3 hk 3 (by
  cases ks with
  | nil=>simp
  | cons k ks=>have:=hk k ah;simp;omega)
 obtain⟨s1,s2⟩:=B9 ho;have dK:(aX (cL ks)).length=(cL ks).length:=by simp[aX]
 unfold lV;split
 ·simp
 unfold nO;have a1:=dq (n:=(e:Int)) aa aa;have:=wD (f:=gD) (m:=20) (l:=aX (cL ks)) aa (λx hx=>by obtain⟨y,hy,rfl⟩:=cJ.1 hx;have:=s2 y hy;exact aju this.1 aa)
 rw[ak];omega
theorem alz(hl:b.length<=1000)(h:iH b=some (v,r)):VB 1048576 v/\(ct v).1=0/\(tQ v).isSome=true/\oM v r=some b/\r.length<=100000000/\∃ls,Y1 r=some ls/\ls.length<=4/\(ls=[]↔r=[]):=by
 have fM:=Y5 hl h;obtain⟨cs,e,T⟩:=P4 h;have hk:=T.kl;have hv:=T.vl;have hrd:=Y3 T.e5 T.k3 aa;rw[<-T.res]at hrd;refine⟨by rw[T.val];exact zL aa,by rw[T.val,ZE aa],by rw[T.val];rfl,fM,by rw[T.res];have:=alu T.e5 T.k3 aa;omega,?_⟩;unfold Y1;rw[hrd];by_cases ht:fX e (lines cs).2=true
 ·rw[ag ht];refine⟨_,rfl,Y2 _ _,?_⟩;rw[T.res,lV,ag ht];exact⟨λ_=>rfl,λ_=>rfl⟩
 rw[ae ht];refine⟨_,rfl,Y2 _ _,?_⟩;rw[(nJ _).1,alq T.k3,T.res,lV,ae ht];exact⟨λq=>absurd q ht,λq=>absurd q (P3 _ _)⟩
def eO(lo:Bool)(c:UInt8):Option Nat :=
 if 48<=c.toNat/\c.toNat<=57 then some (c.toNat-48)else if lo=true/\97<=c.toNat/\c.toNat<=102 then some (c.toNat-87)else if lo=false/\65<=c.toNat/\c.toNat<=70 then some (c.toNat-55)else none
def uz(lo:Bool)(n:Nat):Nat:=if n<10 then 48+n else if lo=true then 87+n else 55+n
def jm(lo:Bool)(n:Nat):UInt8:=aD (uz lo n)
theorem DM(h:n<16):uz lo n<256/\48<=uz lo n:=by unfold uz;by_cases h10:n<10<;>by_cases hl:lo=true<;>simp only[h10,hl,if_true,if_false,sw]<;>omega
theorem vO(h:n<16):(jm lo n).toNat=uz lo n:=dB (DM h).1
theorem AX(h:n<16):eO lo (jm lo n)=some n:=by
 unfold eO;rw[vO h];unfold uz;cases lo<;>simp only[sw,if_false,if_true,false_and,true_and,reduceCtorEq]<;>by_cases h10:n<10;all_goals simp only[h10,if_true,if_false]
 ·rw[ag aa];congr 1;omega
 ·rw[ae aa,ag aa];congr 1;omega
 ·rw[ag aa];congr 1;omega
 rw[ae aa,ag aa];congr 1;omega
theorem AY(h:eO lo c=some n):n<16/\c=jm lo n:=by
 have e:n<16/\c.toNat=uz lo n:=by
  unfold eO at h;unfold uz;split at h
  ·cases h;rw[ag aa];omega
  split at h
  ·rename_i h2;cases h;rw[ae aa,ag h2.1];omega
  split at h
  ·rename_i h2;cases h;rw[ae aa,ae (by rw[h2.1];decide)];omega
  cases h
 refine⟨e.1,bL.1 ?_⟩;rw[vO e.1,e.2]
theorem TW{Vm:Bool}(hm:m<16)(hn:n<16)(h:jm lo m=jm Vm n):m=n:=by have h:=ax UInt8.toNat h;rw[vO hm,vO hn]at h;unfold uz at h;cases lo<;>cases Vm<;>simp only[sw,if_false,if_true]at h<;>split at h<;>split at h<;>omega
abbrev cQ(fl:Nat):Bool:=decide (fl%2=1)
def cW(fl:Nat):ab:=if 2<=fl then[13,10]else[10]
def fI(lo:Bool)(raw:ab):ab:=raw.flatMap λc=>[jm lo (c.toNat/16),jm lo (c.toNat%16)]
def lM(fl:Nat)(raw:ab):ab:=58::(fI (cQ fl) raw++cW fl)
theorem HL(lo:Bool)(raw:ab):(fI lo raw).length=2*raw.length:=by
 induction raw with
 | nil=>rfl
 | cons c r ih=>show(_::_::fI lo r).length=_;simp only[aq];omega
theorem Iq(fl:Nat)(raw:ab):2*raw.length+2<=(lM fl raw).length/\(lM fl raw).length<=2*raw.length+3:=by unfold lM cW;rw[aq,ak,HL];split<;>simp only[aq,aK]<;>omega
theorem vw(c:UInt8):c.toNat/16<16/\c.toNat%16<16/\aD (16*(c.toNat/16)+c.toNat%16)=c:=by have:=c.toNat_lt;refine⟨aa,aa,?_⟩;rw[show 16*(c.toNat/16)+c.toNat%16=c.toNat by omega];exact zg
theorem T3{fl l4:Nat}{x y:ab}:∀ {raw Fo:ab},fI (cQ fl) raw++(cW fl++x)=fI (cQ l4) Fo++(cW l4++y)->raw=Fo/\x=y
 | [],[],h=>by refine⟨rfl,?_⟩;have h:cW fl++x=cW l4++y:=h;unfold cW at h;split at h<;>split at h<;>simp_all
 | [],c::r,h=>by
  exfalso;obtain⟨X,h⟩:∃X,cW fl++x=jm (cQ l4) (c.toNat/16)::X:=⟨_,h⟩
  have:=(vw c).1;have e:=vO (lo:=cQ l4) this;have l:=(DM (lo:=cQ l4) this).2;unfold cW at h;split at h
  ·simp only[bb,gp]at h;rw[<-h.1]at e;have:(13:UInt8).toNat=13:=rfl;omega
  simp only[bb,gp]at h;rw[<-h.1]at e;have:(10:UInt8).toNat=10:=rfl;omega
 | c::r,[],h=>by
  exfalso;obtain⟨X,h⟩:∃X,jm (cQ fl) (c.toNat/16)::X=cW l4++y:=⟨_,h⟩
  have:=(vw c).1;have e:=vO (lo:=cQ fl) this;have l:=(DM (lo:=cQ fl) this).2;unfold cW at h;split at h
  ·simp only[bb,gp]at h;rw[h.1]at e;have:(13:UInt8).toNat=13:=rfl;omega
  simp only[bb,gp]at h;rw[h.1]at e;have:(10:UInt8).toNat=10:=rfl;omega
 | c::r,d::s,h=>by have h:jm (cQ fl) (c.toNat/16)::jm (cQ fl) (c.toNat%16)::(fI (cQ fl) r++(cW fl++x))=jm (cQ l4) (d.toNat/16)::jm (cQ l4) (d.toNat%16)::(fI (cQ l4) s++(cW l4++y)):=h;rw[gp,gp]at h;obtain⟨h1,h2,h3⟩:=h;obtain⟨rfl,e2⟩:=T3 h3;obtain⟨c1,c2,c3⟩:=vw c;obtain⟨d1,d2,d3⟩:=vw d;have k1:=TW c1 d1 h1;have k2:=TW c2 d2 h2;refine⟨?_,e2⟩;rw[<-c3,<-d3,k1,k2]
theorem NK{Fo x y:ab}(h:lM fl raw++x=lM l4 Fo++y):raw=Fo/\x=y:=by unfold lM at h;rw[bb,bb,gp,bj,bj]at h;exact T3 h.2
def gT(l:ab):Nat:=(l.map UInt8.toNat).sum
theorem Yv(a b:ab):gT (a++b)=gT a+gT b:=by simp[gT]
abbrev b8(l:ab)(i:Nat):Nat:=(l[i]?.getD 0).toNat
def j0(raw:ab):Prop:=5<=raw.length/\raw.length=5+b8 raw 0/\gT raw%256=0
instance(raw:ab):Decidable (j0 raw):=by unfold j0;infer_instance
def dL(lo:Bool):ab->ab×ab
 | a::b::t=>match eO lo a,eO lo b with
  | some x,some y=>(aD (16*x+y)::(dL lo t).1,(dL lo t).2)
  | _,_=>([],a::b::t)
 | l=>([],l)
theorem Ok(lo:Bool):∀(l:ab),fI lo (dL lo l).1++(dL lo l).2=l
 | []=>rfl
 | [a]=>rfl
 | a::b::t=>by
  unfold dL;cases h1:eO lo a with
  | none=>rfl
  | some x =>
   cases h2:eO lo b with
   | none=>rfl
   | some y =>obtain⟨x1,rfl⟩:=AY h1;obtain⟨y1,rfl⟩:=AY h2;simp only;have e:(aD (16*x+y)).toNat=16*x+y:=dB aa;show jm lo ((aD (16*x+y)).toNat/16)::jm lo ((aD (16*x+y)).toNat%16)::(fI lo (dL lo t).1++(dL lo t).2)=_;rw[e,Ok lo t,show(16*x+y)/16=x by omega,show(16*x+y)%16=y by omega]
theorem Ol(lo:Bool){e:UInt8}(he:e.toNat<48)(r:ab):∀(raw:ab),dL lo (fI lo raw++e::r)=(raw,e::r)
 | []=>by
  have h:eO lo e=none:=by unfold eO;rw[ae aa,ae aa,ae aa]
  cases r with
  | nil=>rfl
  | cons b t =>show dL lo (e::b::t)=_;unfold dL;rw[h]
 | c::raw=>by obtain⟨c1,c2,c3⟩:=vw c;show dL lo (jm lo (c.toNat/16)::jm lo (c.toNat%16)::(fI lo raw++e::r))=_;unfold dL;rw[AX c1,AX c2];simp only;rw[Ol lo he r raw,c3]
def lQ(fl:Nat):ab->Option (ab×ab)
 | []=>none
 | c::t=>if c=58/\(dL (cQ fl) t).2.take (cW fl).length=cW fl/\j0 (dL (cQ fl) t).1 then some ((dL (cQ fl) t).1,(dL (cQ fl) t).2.drop (cW fl).length)else none
theorem Fq(fl:Nat)(c:UInt8)(t:ab):lQ fl (c::t)=if c=58/\(dL (cQ fl) t).2.take (cW fl).length=cW fl/\j0 (dL (cQ fl) t).1 then some ((dL (cQ fl) t).1,(dL (cQ fl) t).2.drop (cW fl).length)else none:=rfl
theorem zl :lQ fl l=some (raw,r)↔l=lM fl raw++r/\j0 raw:=by
 constructor
 ·intro h;cases l with
  | nil=>cases h
  | cons c t =>
   rw[Fq]at h;by_cases hc:c=58/\(dL (cQ fl) t).2.take (cW fl).length=cW fl/\j0 (dL (cQ fl) t).1
   ·rw[ag hc]at h;cases h;obtain⟨rfl,h2,h3⟩:=hc;refine⟨?_,h3⟩;unfold lM;rw[bb,bj];conv=>lhs;rw[<-Ok (cQ fl) t,<-eW (cW fl).length (dL (cQ fl) t).2,h2]
   rw[ae hc]at h;cases h
 rintro⟨rfl,h2⟩;unfold lM;rw[bb,bj];have e:dL (cQ fl) (fI (cQ fl) raw++(cW fl++r))=(raw,cW fl++r):=by
  unfold cW;split
  ·exact Ol _ ai _ raw
  exact Ol _ ai _ raw
 rw[Fq,e];simp only;rw[ag ⟨by trivial,by rw[tD],h2⟩,kN]
def zn(fl:Nat):Nat->ab->Option bf
 | _,[]=>some []
 | 0,_=>none
 | n+1,l=>match lQ fl l with
  | none=>none
  | some (raw,r)=>match zn fl n r with
   | none=>none
   | some rs=>some (raw::rs)
def ig(fl:Nat)(l:ab):Option bf:=zn fl l.length l
theorem ai0:∀ {n:Nat} {l:ab} {rs:bf},l.length<=n->(zn fl n l=some rs↔l=rs.flatMap (lM fl)/\∀r∈rs,j0 r):=by
 intro n;induction n with
 | zero =>
  intro l rs hl;obtain rfl:=dt (by omega:l.length=0);unfold zn;constructor
  ·intro h;cases h;exact⟨rfl,ah⟩
  rintro⟨h1,_⟩;cases rs with
  | nil=>rfl
  | cons a rs =>have:=ax bU h1;rw[bD,ak]at this;have:=(Iq fl a).1;simp only[aK]at *;omega
 | succ n ih =>
  intro l rs hl;cases l with
  | nil =>
   unfold zn;constructor
   ·intro h;cases h;exact⟨rfl,ah⟩
   rintro⟨h1,_⟩;cases rs with
   | nil=>rfl
   | cons a rs =>have:=ax bU h1;rw[bD,ak]at this;have:=(Iq fl a).1;simp only[aK]at *;omega
  | cons c t =>
   show(match lQ fl (c::t)with
    | none=>none
    | some (raw,r)=>match zn fl n r with
     | none=>none
     | some rs=>some (raw::rs))=some rs↔_
   cases hr:lQ fl (c::t)with
   | none =>
    simp only;constructor
    ·intro h;cases h
    rintro⟨h1,h2⟩;cases rs with
    | nil=>cases h1
    | cons a rs =>rw[bD]at h1;rw[zl.2 ⟨h1,h2 a ah⟩]at hr;cases hr
   | some p =>
    obtain⟨raw,r⟩:=p;obtain⟨e1,e2⟩:=zl.1 hr;have hlen:r.length<=n:=by have:=ax bU e1;rw[ak]at this;have:=(Iq fl raw).1;simp only[aq]at *;omega
    simp only;constructor
    ·intro h;cases hq:zn fl n r with
     | none=>rw[hq]at h;cases h
     | some qs =>
      rw[hq]at h;cases h;obtain⟨f1,f2⟩:=(ih hlen).1 hq;refine⟨by rw[bD,<-f1];exact e1,λx hx=>?_⟩;rcases bP.1 hx with rfl|hx
      ·exact e2
      exact f2 x hx
    rintro⟨h1,h2⟩;cases rs with
    | nil=>cases h1
    | cons a rs =>rw[bD,e1]at h1;obtain⟨rfl,rfl⟩:=NK h1;rw[(ih hlen).2 ⟨rfl,λx hx=>h2 x (by simp[hx])⟩]
theorem sE :ig fl l=some rs↔l=rs.flatMap (lM fl)/\∀r∈rs,j0 r:=ai0 (aQ _)
theorem O7(fl:Nat):ig fl []=some []:=rfl
theorem XH(hl:l≠[])(h:lQ fl l=none):ig fl l=none:=by
 cases hr:ig fl l with
 | none=>rfl
 | some rs =>
  obtain⟨h1,h2⟩:=sE.1 hr;cases rs with
  | nil=>exact absurd h1 hl
  | cons a rs =>rw[bD]at h1;rw[zl.2 ⟨h1,h2 a ah⟩]at h;cases h
theorem JA(h:lQ fl l=some (raw,r)):ig fl l=match ig fl r with
  | none=>none
  | some rs=>some (raw::rs):=by
 obtain⟨e1,e2⟩:=zl.1 h;cases hr:ig fl r with
 | some rs =>
  obtain⟨f1,f2⟩:=sE.1 hr;refine sE.2 ⟨by rw[bD,<-f1];exact e1,λx hx=>?_⟩;rcases bP.1 hx with rfl|hx
  ·exact e2
  exact f2 x hx
 | none =>
  cases hl:ig fl l with
  | none=>rfl
  | some qs =>
   obtain⟨f1,f2⟩:=sE.1 hl;cases qs with
   | nil=>rw[f1]at h;cases h
   | cons a qs =>rw[bD,e1]at f1;obtain⟨rfl,rfl⟩:=NK f1;rw[sE.2 ⟨rfl,λx hx=>f2 x (by simp[hx])⟩]at hr;cases hr
theorem S7{fl l4:Nat}:∀ {rs rs':bf},rs.flatMap (lM fl)=rs'.flatMap (lM l4)->rs=rs'
 | [],[],_=>rfl
 | [],a::r,h=>by rw[bD]at h;cases h
 | a::r,[],h=>by rw[bD]at h;cases h
 | a::r,b::s,h=>by rw[bD,bD]at h;obtain⟨rfl,h2⟩:=NK h;rw[S7 h2]
theorem ai1{rs':bf}(h:ig fl l=some rs)(h':ig l4 l=some rs'):rs=rs':=by have e:=(sE.1 h).1;rw[(sE.1 h').1]at e;exact(S7 e).symm
abbrev cv:=Nat×ab
def fB(raw:ab):Nat:=256*b8 raw 1+b8 raw 2
def jt(raw:ab):ab:=(raw.drop 4).take (b8 raw 0)
theorem O3(h:j0 raw):(jt raw).length=b8 raw 0:=by have:=h.2.1;simp[jt];omega
def na(at_:Nat)(c:ab)(S:List cv):List cv:=match S.getLast? with
 | none=>[(at_,c)]
 | some x=>if x.1+x.2.length=at_ then S.dropLast++[(x.1,x.2++c)]else S++[(at_,c)]
theorem KB(a:Nat)(c:ab):na a c []=[(a,c)]:=rfl
theorem xi(a:Nat)(c:ab)(S:List cv)(x:cv):na a c (S++[x])=if x.1+x.2.length=a then S++[(x.1,x.2++c)]else S++[x]++[(a,c)]:=by unfold na;rw[List.getLast?_concat,List.dropLast_concat]
def Da(raw:ab):Prop:=b8 raw 3=0/\b8 raw 0≠0/\fB raw+b8 raw 0<=65536
instance(raw:ab):Decidable (Da raw):=by unfold Da;infer_instance
def G8(raw:ab):Prop:=b8 raw 0=0/\fB raw=0/\b8 raw 3=1
instance(raw:ab):Decidable (G8 raw):=by unfold G8;infer_instance
def kX(S:List cv)(Z:au):bf->Option (List cv×au)
 | []=>none
 | [raw]=>if G8 raw then some (S,Z)else none
 | raw::rs=>if Da raw then kX (na (fB raw) (jt raw) S) (Z++[b8 raw 0]) rs else none
theorem Hl(S:List cv)(Z:au)(raw:ab):kX S Z [raw]=if G8 raw then some (S,Z)else none:=by rw[kX]
theorem Hk(S:List cv)(Z:au)(raw:ab){rs:bf}(h:rs≠[]):kX S Z (raw::rs)=if Da raw then kX (na (fB raw) (jt raw) S) (Z++[b8 raw 0]) rs else none:=by
 cases rs with
 | nil=>exact absurd rfl h
 | cons a rs=>rw[kX];simp
def rB(fl:Nat)(l:ab):Option (List cv×au):=match ig fl l with
 | none=>none
 | some rs=>kX [] [] rs
def wN(fl:Nat)(S:List cv)(Z:au)(l:ab):Option (List cv×au):=match ig fl l with
 | none=>none
 | some rs=>kX S Z rs
theorem XD{S:List cv}(h:lQ fl l=none):wN fl S Z l=none:=by
 cases l with
 | nil=>rfl
 | cons c t=>unfold wN;rw[XH ah h]
theorem aiO{S:List cv}(h:lQ fl l=some (raw,r))(hk:b8 raw 3=1):wN fl S Z l=if b8 raw 0=0/\fB raw=0/\r=[]then some (S,Z)else none:=by
 unfold wN;rw[JA h];by_cases hr:r=[]
 ·subst hr;rw[O7];simp only;rw[Hl];by_cases h2:b8 raw 0=0/\fB raw=0
  ·rw[ag ⟨h2.1,h2.2,hk⟩,ag ⟨h2.1,h2.2,by trivial⟩]
  rw[ae λq=>h2 ⟨q.1,q.2.1⟩,ae λq=>h2 ⟨q.1,q.2.1⟩]
 rw[ae λq=>hr q.2.2];cases hq:ig fl r with
 | none=>rfl
 | some rs =>
  simp only;have bI:rs≠[]:=by rintro rfl;exact hr (sE.1 hq).1
  rw[Hk _ _ _ bI,ae λq=>by have:=q.1;omega]
theorem aiN{S:List cv}(h:lQ fl l=some (raw,r))(hk:b8 raw 3≠1):wN fl S Z l=if Da raw then wN fl (na (fB raw) (jt raw) S) (Z++[b8 raw 0]) r else none:=by
 unfold wN;rw[JA h];by_cases hr:r=[]
 ·subst hr;rw[O7];simp only;rw[Hl,ae λq=>hk q.2.2];split<;>rfl
 cases hq:ig fl r with
 | none=>simp only;split<;>rfl
 | some rs =>
  simp only;have bI:rs≠[]:=by rintro rfl;exact hr (sE.1 hq).1
  rw[Hk _ _ _ bI]
def ir(n:Nat):au:=if n=0 then[]else if n<=16 then[n]else 16::ir (n-16)
def gv(S:List cv):au:=S.flatMap λs=>ir s.2.length
theorem alZ:ir 0=[]:=by rw[ir,ag rfl]
theorem Qf(h0:n≠0)(h:n<=16):ir n=[n]:=by rw[ir,ae h0,ag h]
theorem Qc(h:16<n):ir n=16::ir (n-16):=by rw[ir,ae aa,ae aa]
def Yw(b:ab):UInt8:=aD (256-gT b%256)
def Jz(a kind:Nat)(c:ab):ab:=[aD c.length,aD (a/256),aD a,aD kind]++c
def nC(a kind:Nat)(c:ab):ab:=Jz a kind c++[Yw (Jz a kind c)]
def lH(a:Nat):ab->au->Option (bf×au)
 | [],Z=>some ([],Z)
 | _::_,[]=>none
 | c::d,n::Z=>if n<=(c::d).length then(match lH (a+n) ((c::d).drop n) Z with
   | none=>none
   | some (rs,Z')=>some (nC a 0 ((c::d).take n)::rs,Z'))else none
def jv:List cv->au->Option bf
 | [],Z=>if Z=[]then some []else none
 | (a,d)::S,Z=>match lH a d Z with
  | none=>none
  | some (rs,Z')=>match jv S Z' with
   | none=>none
   | some qs=>some (rs++qs)
def MC(fl:Nat)(S:List cv)(Z:au):fV:=match jv S (if Z=[]then gv S else Z)with
 | none=>none
 | some rs=>some ((rs++[nC 0 1 []]).flatMap (lM fl))
def pG(lo:Bool):ab->fV
 | []=>none
 | c::t=>if c=58/\(dL lo t).2=[]/\j0 (dL lo t).1 then some (dL lo t).1 else none
theorem Oj(lo:Bool):∀(raw:ab),dL lo (fI lo raw)=(raw,[])
 | []=>rfl
 | c::raw=>by obtain⟨c1,c2,c3⟩:=vw c;show dL lo (jm lo (c.toNat/16)::jm lo (c.toNat%16)::fI lo raw)=_;unfold dL;rw[AX c1,AX c2];simp only;rw[Oj lo raw,c3]
theorem Jt(lo:Bool)(c:UInt8)(t:ab):pG lo (c::t)=if c=58/\(dL lo t).2=[]/\j0 (dL lo t).1 then some (dL lo t).1 else none:=rfl
theorem Jv{s:ab}:pG lo s=some raw↔s=58::fI lo raw/\j0 raw:=by
 constructor
 ·intro h;cases s with
  | nil=>cases h
  | cons c t =>
   rw[Jt]at h;by_cases hc:c=58/\(dL lo t).2=[]/\j0 (dL lo t).1
   ·rw[ag hc]at h;cases h;refine⟨?_,hc.2.2⟩;have:=Ok lo t;rw[hc.2.1,aZ]at this;rw[this,hc.1]
   rw[ae hc]at h;cases h
 rintro⟨rfl,h2⟩;rw[Jt,Oj,ag ⟨rfl,rfl,h2⟩]
theorem XC{s:ab}(h:∀raw,s=58::fI lo raw->¬j0 raw):pG lo s=none:=by
 cases hr:pG lo s with
 | none=>rfl
 | some raw =>obtain⟨h1,h2⟩:=Jv.1 hr;exact absurd h2 (h raw h1)
theorem adZ(h:c∈fI lo raw):48<=c.toNat:=by
 unfold fI at h;obtain⟨b,_,hb⟩:=List.mem_flatMap.1 h;obtain⟨b1,b2,_⟩:=vw b;simp only[bP,tA,or_false]at hb;rcases hb with rfl|rfl
 ·rw[vO b1];exact(DM b1).2
 rw[vO b2];exact(DM b2).2
theorem acK(fl:Nat):∃e r,cW fl=e::r/\e.toNat<48:=by
 unfold cW;split
 ·exact⟨13,[10],rfl,ai⟩
 exact⟨10,[],rfl,ai⟩
theorem afC(fl:Nat){a:ab}(h:∀c∈a,48<=c.toNat)(r:ab):Lib.NoOcc (a++r) (cW fl) a.length:=λj hj=>by
 obtain⟨e,es,he,hlt⟩:=acK fl;unfold Lib.occAt;rw[he,Fi aa,dk hj];have hc:=h a[j] (bS hj);have:(e == a[j])=false:=by rw[beq_eq_false_iff_ne];intro q;rw[<-q]at hc;omega
 rw[bb];simp[List.isPrefixOf,this]
theorem Vj(fl:Nat){a:ab}(h:∀c∈a,48<=c.toNat)(r:ab):Lib.index (a++(cW fl++r)) (cW fl)=(a.length:Nat):=by refine Lib.index_hit (afC fl h _) ah ?_;unfold Lib.occAt;rw[kN];exact aib.2 ⟨r,rfl⟩
theorem Vi :∀c∈(58::fI lo raw:ab),48<=c.toNat:=λc hc=>by
 rcases bP.1 hc with rfl|hc
 ·decide
 exact adZ hc
theorem Ir(fl:Nat)(raw r:ab):lM fl raw++r=(58::fI (cQ fl) raw)++(cW fl++r):=by unfold lM;simp
theorem U4:∀ {s sub:ab} {i:Nat},Lib.index s sub=(i:Nat)->Lib.occAt s sub i=true/\i<=s.length
 | [],sub,i,h=>by
  unfold Lib.index at h;split at h
  ·rename_i he;obtain rfl:i=0:=aa;cases sub with
   | nil=>exact⟨rfl,aQ _⟩
   | cons a r=>simp at he
  omega
 | b::l,sub,i,h=>by
  unfold Lib.index at h;split at h
  ·rename_i he;obtain rfl:i=0:=aa;exact⟨he,cE _⟩
  split at h
  ·omega
  have rC:=Lib.index_ge l sub;have hne:Lib.index l sub ≠ -1:=λe=>by rename_i h2;exact h2 (beq_iff_eq.2 e)
  obtain⟨j,rfl⟩:∃j,i=j+1:=⟨i-1,aa⟩
  obtain⟨h1,h2⟩:=U4 (s:=l) (sub:=sub) (i:=j) aa;exact⟨h1,by simp only[aq];omega⟩
theorem aiH(h:Lib.index l (cW fl) = -1):lQ fl l=none:=by
 cases hr:lQ fl l with
 | none=>rfl
 | some p =>obtain⟨raw,r⟩:=p;obtain⟨h1,_⟩:=zl.1 hr;rw[h1,Ir,Vj fl Vi]at h;omega
theorem aiG{i:Nat}(h:Lib.index l (cW fl)=(i:Nat))(ho:Lib.occAt l (cW fl) i=true):lQ fl l=match pG (cQ fl) (l.take i)with
  | none=>none
  | some raw=>some (raw,l.drop (i+(cW fl).length)):=by
 have hl:l=l.take i++(cW fl++l.drop (i+(cW fl).length)):=by
  unfold Lib.occAt at ho;obtain⟨t,ht⟩:=aib.1 ho;have:l.drop (i+(cW fl).length)=t:=by rw[<-gK,<-ht,kN]
  rw[this,ht,eW]
 cases hs:pG (cQ fl) (l.take i)with
 | some raw =>obtain⟨h1,h2⟩:=Jv.1 hs;refine zl.2 ⟨?_,h2⟩;rw[Ir,<-h1];exact hl
 | none =>
  simp only;cases hr:lQ fl l with
  | none=>rfl
  | some p =>obtain⟨raw,r⟩:=p;obtain⟨h1,h2⟩:=zl.1 hr;have h3:=h;rw[h1,Ir,Vj fl Vi]at h3;have hi:i=(58::fI (cQ fl) raw:ab).length:=aa;rw[h1,Ir,hi,tD]at hs;rw[Jv.2 ⟨rfl,h2⟩]at hs;cases hs
def G4(lo:Bool):ab:=(bZ 16).map (jm lo)
def jR(lo:Bool)(c:UInt8):Int:=match eO lo c with
 | none => -1
 | some n=>n
theorem So(lo:Bool)(c:UInt8):Lib.indexByte (G4 lo) c=jR lo c:=by
 have key:∀n,n<256->Lib.indexByte (G4 true) (aD n)=jR true (aD n)/\Lib.indexByte (G4 false) (aD n)=jR false (aD n):=by decide +kernel
 have:=key c.toNat c.toNat_lt;rw[zg]at this;cases lo
 ·exact this.2
 exact this.1
theorem PI(h:k<l.length):gT (l.take (k+1))=gT (l.take k)+l[k].toNat:=by rw[bK h,Yv];simp[gT]
theorem HH :jR lo c<0↔eO lo c=none:=by
 unfold jR;cases eO lo c with
 | none=>simp
 | some n=>simp
theorem DL(h:eO lo c=some n):jR lo c=n:=by unfold jR;rw[h]
theorem ad0{x:Nat}(hx:x<16)(hy:y<16):fI lo raw++[jm lo x,jm lo y]=fI lo (raw++[aD (16*x+y)]):=by unfold fI;rw[cw];have e:(aD (16*x+y)).toNat=16*x+y:=dB aa;simp only[bD,eL,aZ];rw[e,show(16*x+y)/16=x by omega,show(16*x+y)%16=y by omega]
theorem T1{lo:Bool}:∀ {raw:ab} {k:Nat},k<raw.length->(∃x,x<16/\(fI lo raw)[2*k]?=some (jm lo x))/\∃y,y<16/\(fI lo raw)[2*k+1]?=some (jm lo y)
 | [],k,h=>by simp at h
 | c::raw,0,_=>by obtain⟨c1,c2,_⟩:=vw c;exact⟨⟨_,c1,rfl⟩,_,c2,rfl⟩
 | c::raw,k+1,h=>by
  have:=T1 (lo:=lo) (raw:=raw) (k:=k) (by simpa using h);have e1:(fI lo (c::raw))[2*(k+1)]?=(fI lo raw)[2*k]?:=by show(_::_::fI lo raw)[2*k+1+1]?=_;rfl
  have e2:(fI lo (c::raw))[2*(k+1)+1]?=(fI lo raw)[2*k+1]?:=by show(_::_::fI lo raw)[2*k+1+1+1]?=_;rfl
  rw[e1,e2];exact this
theorem aiJ(h:k<t.length)(hd:eO lo t[k]=none):pG lo (58::t)=none:=XC λraw he=>by
 exfalso;rw[gp]at he;obtain⟨_,he⟩:=he;subst he;rw[HL]at h;obtain⟨⟨x,hx,h1⟩,y,hy,h2⟩:=T1 (lo:=lo) (raw:=raw) (k:=k/2) aa;have hg:(fI lo raw)[k]?=some ((fI lo raw)[k]'(by rw[HL];exact h)):=bz _;by_cases e:k%2=0
 ·rw[show 2*(k/2)=k by omega,hg]at h1;rw[dT h1,AX hx]at hd;cases hd
 rw[show 2*(k/2)+1=k by omega,hg]at h2;rw[dT h2,AX hy]at hd;cases hd
theorem aiK(h:t.length%2≠0):pG lo (58::t)=none:=XC λraw he=>by rw[gp]at he;rw[he.2,HL]at h;omega
theorem aiI :pG lo (58::fI lo raw)=if j0 raw then some raw else none:=by rw[Jt,Oj];simp only[true_and]
abbrev Cb:ab:=[97,116]
abbrev Cc:ab:=[100,97,116,97]
abbrev wQ(s:cv):ao:=.mk 4 0 [] [Cb,Cc] [.mk 1 (s.1:Int) [] [] [],.mk 2 0 s.2 [] []]
abbrev kJ(S:List cv):ao:=.mk 3 0 [] [] (S.map wQ)
abbrev ints(Z:au):List Int:=Z.map λ(n:Nat)=>(n:Int)
def iD(fl:Nat)(Z:au):ab:=if fl=0/\Z=[]then[]else az fl++cm az (ints Z)
def jd(S:List cv)(Z:au):au:=if Z=gv S then[]else Z
def gB(fl:Nat)(l:ab):Option (ao×ab):=match rB fl l with
 | none=>none
 | some (S,Z)=>if(ct (kJ S)).1=0 then some (kJ S,iD fl (jd S Z))else none
def HN(l:ab):Nat->Option (ao×ab)
 | 0=>none
 | n+1=>match gB (3-n) l with
  | some x=>some x
  | none=>HN l n
def hC(l:ab):Option (ao×ab):=HN l 4
def Ps(r:ao):Option cv:=if r.kind=4/\r.names=[Cb,Cc]then(match r.parts with
 | [a,d]=>if a.kind=1/\d.kind=2/\0<=a.num/\a.num<65536/\d.bytes≠[]/\(d.bytes.length:Int)<=65536-a.num then some (a.num.toNat,d.bytes)else none
 | _=>none)else none
def HQ(v:ao):Option (List cv):=if v.kind=3 then allM Ps v.parts else none
def PJ(z:List Int):Prop:=∀n∈z,1<=n/\n<=255
instance(z:List Int):Decidable (PJ z):=by unfold PJ;infer_instance
def MD(b:ab):Option (Int×List Int):=match fN b 0 with
 | .bad _ _=>none
 | .ok c p=>match iZ b (fN b) 1000 p with
  | .bad _ _=>none
  | .ok z q=>if q=b.length then some (c,z)else none
def HP(b:ab):Option (Nat×au):=if b=[]then some (0,[])else match MD b with
 | none=>none
 | some (c,z)=>if(0<=c/\c<4)/\¬(c=0/\z=[])/\PJ z then some (c.toNat,z.map gR)else none
noncomputable def HO(v:ao)(b:ab):fV:=match HQ v with
 | none=>none
 | some S=>match HP b with
  | none=>none
  | some (fl,Z)=>match MC fl S Z with
   | none=>none
   | some o=>if o.length<=1000/\hC o=some (v,b)then some o else none
abbrev afW:ab:=[108,111,119,101,114,32,99,97,115,101]
abbrev afV:ab:=[99,97,114,114,105,97,103,101,32,114,101,116,117,114,110,32,97,110,100,32,108,105,110,101,32,102,101,101,100]
abbrev afZ:ab:=[114,101,99,111,114,100,115]
def Ev(fl n:Nat):List pN:=(if fl%2=1 then[(afW,1)]else[])++(if 2<=fl then[(afV,1)]else[])++(if 0<n then[(afZ,(n:Int))]else[])
def T5(b:ab):Option (List pN):=match HP b with
 | none=>none
 | some (fl,Z)=>some (Ev fl Z.length)
theorem NF(Z:au):(ints Z).map gR=Z:=by
 unfold ints;rw[pD];conv=>rhs;rw[<-ze Z]
 exact qz λx _=>by simp
theorem ad6(hf:fl<4)(hl:Z.length<=1000)(hz:∀n∈Z,n<=255):MD (az fl++cm az (ints Z))=some ((fl:Int),ints Z):=by
 obtain⟨b,hb⟩:∃b,b=az (fl:Int)++cm az (ints Z):=⟨_,rfl⟩
 rw[<-hb];have e1:b=[]++(az (fl:Int)++cm az (ints Z)):=by rw[hb];rfl
 have n1:=mM (n:=(fl:Int)) aa aa [] (cm az (ints Z));rw[<-e1]at n1;have e2:b=az (fl:Int)++(az ((ints Z).length:Int)++((ints Z).flatMap az++[])):=by rw[hb,cm,aZ]
 have dK:(ints Z).length=Z.length:=ah;have n2:=mM (n:=((ints Z).length:Int)) aa aa (az (fl:Int)) ((ints Z).flatMap az++[]);rw[<-e2]at n2;have hbl:=ax bU e2;simp only[ak,aK]at hbl;have n3:=Bl (f:=az) (b:=b) (one:=fN b) (ints Z) ((az (fl:Int)).length+(az ((ints Z).length:Int)).length) aa (λx hx q r hq hd=>by
  obtain⟨n,hn,rfl⟩:=cJ.1 hx;have:=hz n hn;have e:b=b.take q++(az (n:Int)++r):=by rw[<-hd,eW]
  have cD:(b.take q).length=q:=by simp;omega
  have:=mM (n:=(n:Int)) aa aa (b.take q) r;rwa [cD,<-e]at this) [] (by
   rw[<-gK];conv=>lhs;rw[e2]
   rw[kN,kN])
 unfold MD;simp only[aK,dR]at n1;rw[n1];simp only;unfold iZ;rw[n2];simp only;rw[ae aa,jr,n3];simp only;rw[ag aa]
theorem T6(hf:fl<4)(hl:Z.length<=1000)(hz:∀n∈Z,1<=n/\n<=255):HP (iD fl Z)=some (fl,Z):=by
 unfold iD;split
 ·rename_i h;obtain⟨rfl,rfl⟩:=h;rfl
 rename_i hne;unfold HP;rw[ae,ad6 hf hl λn hn=>(hz n hn).2]
 ·simp only;rw[ag,jr,NF];refine⟨aa,λq=>hne ⟨aa,?_⟩,λn hn=>?_⟩
  ·have:=q.2;simpa [ints]using this
  obtain⟨m,hm,rfl⟩:=cJ.1 hn;have:=hz m hm;omega
 intro h;have:=ax bU h;have:=qq (zz (fl:Int));simp only[ak,az,aK]at *;omega
theorem ajb :iD fl Z=[]↔fl=0/\Z=[]:=by
 unfold iD;constructor
 ·intro h;split at h
  ·assumption
  have:=ax bU h;have:=qq (zz (fl:Int));simp only[ak,az,aK]at *;omega
 intro h;rw[ag h]
theorem afK(hf:fl<4):Ev fl n=[]↔fl=0/\n=0:=by
 unfold Ev;by_cases h1:fl%2=1
 ·simp[h1];omega
 by_cases h2:2<=fl
 ·simp[h2];omega
 by_cases h3:0<n
 ·simp[h3];omega
 simp[h1,h2,h3];omega
theorem afJ(fl n:Nat):(Ev fl n).length<=3:=by unfold Ev;simp only[ak];split<;>split<;>split<;>simp
theorem C7(a:Nat)(Z:au):lH a [] Z=some ([],Z):=by rw[lH]
theorem GV(h:d≠[]):lH a d []=none:=by
 cases d with
 | nil=>exact absurd rfl h
 | cons c d=>rw[lH]
theorem C6(h:d≠[]):lH a d (n::Z)=if n<=d.length then(match lH (a+n) (d.drop n) Z with
  | none=>none
  | some (rs,Z')=>some (nC a 0 (d.take n)::rs,Z'))else none:=by
 cases d with
 | nil=>exact absurd rfl h
 | cons c d=>rw[lH]<;>rfl
theorem K2(Y:au):∀ {Z:au} {a:Nat} {d:ab} {rs:bf} {Z':au},lH a d Z=some (rs,Z')->lH a d (Z++Y)=some (rs,Z'++Y)
 | [],a,d,rs,Z',h=>by
  by_cases hd:d=[]
  ·subst hd;rw[C7]at h |-;cases h;rfl
  rw[GV hd]at h;cases h
 | n::Z,a,d,rs,Z',h=>by
  by_cases hd:d=[]
  ·subst hd;rw[C7]at h |-;cases h;rfl
  rw[bb];rw[C6 hd]at h |-;split at h
  ·rename_i hn;rw[ag hn];cases hc:lH (a+n) (d.drop n) Z with
   | none=>rw[hc]at h;cases h
   | some p =>obtain⟨q,Z2⟩:=p;rw[hc]at h;cases h;rw[K2 Y hc]
  cases h
theorem Rx{c:ab}(hc:c≠[]):lH a c [c.length]=some ([nC a 0 c],[]):=by rw[C6 hc,ag (aQ _),OM,C7,List.take_length]
theorem Rw{c:ab}(hc:c≠[]):∀ {Z:au} {a:Nat} {d:ab} {rs:bf},lH a d Z=some (rs,[])->lH a (d++c) (Z++[c.length])=some (rs++[nC (a+d.length) 0 c],[])
 | [],a,d,rs,h=>by
  by_cases hd:d=[]
  ·subst hd;rw[C7]at h;cases h;exact Rx hc
  rw[GV hd]at h;cases h
 | n::Z,a,d,rs,h=>by
  by_cases hd:d=[]
  ·subst hd;rw[C7]at h;cases h
  rw[C6 hd]at h;rw[bb,C6 (by simp[hd])];split at h
  ·rename_i hn;rw[ag (by rw[ak];omega),Fi hn,List.take_append_of_le_length hn];cases hq:lH (a+n) (d.drop n) Z with
   | none=>rw[hq]at h;cases h
   | some p =>obtain⟨q,Z2⟩:=p;rw[hq]at h;cases h;rw[Rw hc hq];simp only[bb,aU];rw[show a+n+(d.length-n)=a+d.length by omega]
  cases h
theorem Kp{S:List cv}{Z':au}{q qs:bf}(h1:lH a d Z=some (q,Z'))(h2:jv S Z'=some qs):jv ((a,d)::S) Z=some (q++qs):=by rw[jv,h1];simp only;rw[h2]
theorem F7{S:List cv}(h:jv ((a,d)::S) Z=some rs):∃q Z' qs,lH a d Z=some (q,Z')/\jv S Z'=some qs/\rs=q++qs:=by
 rw[jv]at h;split at h
 ·cases h
 rename_i q Z' h1;split at h
 ·cases h
 rename_i qs h2;cases h;exact⟨q,Z',qs,h1,h2,rfl⟩
theorem ZQ(h:jv [] Z=some rs):Z=[]/\rs=[]:=by
 rw[jv]at h;split at h
 ·rename_i hz;cases h;exact⟨hz,rfl⟩
 cases h
theorem Qs{a:Nat}{c:ab}(hc:c≠[]):∀ {S:List cv} {Z:au} {rs:bf},jv S Z=some rs->jv (S++[(a,c)]) (Z++[c.length])=some (rs++[nC a 0 c])
 | [],Z,rs,h=>by obtain⟨rfl,rfl⟩:=ZQ h;exact Kp (S:=[]) (q:=[nC a 0 c]) (qs:=[]) (Rx hc) (by rw[jv,ag rfl])
 | (x,d)::S,Z,rs,h=>by obtain⟨q,Z',qs,h1,h2,rfl⟩:=F7 h;rw[bb,bj];exact Kp (K2 _ h1) (Qs hc h2)
theorem ZP{a:Nat}{d c:ab}(hc:c≠[]):∀ {S:List cv} {Z:au} {rs:bf},jv (S++[(a,d)]) Z=some rs->jv (S++[(a,d++c)]) (Z++[c.length])=some (rs++[nC (a+d.length) 0 c])
 | [],Z,rs,h=>by obtain⟨q,Z',qs,h1,h2,rfl⟩:=F7 h;obtain⟨rfl,rfl⟩:=ZQ h2;rw[aZ,aL];have:=Kp (S:=[]) (Rw hc h1) (by rw[jv,ag rfl]);rwa [aZ]at this
 | (x,e)::S,Z,rs,h=>by obtain⟨q,Z',qs,h1,h2,rfl⟩:=F7 h;rw[bb,bj];exact Kp (K2 _ h1) (ZP hc h2)
def mT(S:List cv):Prop:=∀s∈S,s.1<65536/\s.2≠[]/\s.2.length+s.1<=65536
theorem Pt{S:List cv}{c:ab}(h:mT S)(hc:c≠[])(ha:a+c.length<=65536):mT (na a c S):=by
 have hcl:0<c.length:=iC.2 hc;rcases uZ S with rfl|⟨P,x,rfl⟩
 ·intro s hs;rw[KB]at hs;simp only[cz]at hs;subst hs;exact⟨by dsimp only;omega,hc,by dsimp only;omega⟩
 rw[Fc]at h |-;rw[xi];split
 ·rename_i he;intro s hs;rcases cc.1 hs with hs|hs
  ·exact h s (by simp[hs])
  simp only[cz]at hs;subst hs;have:=h x ah;refine⟨this.1,by simp[this.2.1],?_⟩;simp only[ak];omega
 intro s hs;rcases cc.1 hs with hs|hs
 ·exact h s hs
 simp only[cz]at hs;subst hs;exact⟨by dsimp only;omega,hc,by dsimp only;omega⟩
theorem ams{S:List cv}{c:ab}(hc:c≠[])(h:jv S Z=some rs):jv (na a c S) (Z++[c.length])=some (rs++[nC a 0 c]):=by
 rcases uZ S with rfl|⟨P,x,rfl⟩
 ·exact Qs hc h
 rw[Fc]at h |-;rw[xi];split
 ·rename_i he;rw[<-he];exact ZP hc h
 exact Qs hc h
theorem amt{S:List cv}(hS:mT S)(h:jv S []=some rs):S=[]:=by
 cases S with
 | nil=>rfl
 | cons x S =>obtain⟨a,d⟩:=x;obtain⟨q,Z',qs,h1,_,_⟩:=F7 h;rw[GV (hS (a,d) ah).2.1]at h1;cases h1
theorem P5(c:UInt8):aD c.toNat=c:=zg
theorem XG(h:j0 raw):raw=nC (fB raw) (b8 raw 3) (jt raw)/\∀k,b8 raw 3=k->raw=nC (fB raw) k (jt raw):=by
 have key:raw=nC (fB raw) (b8 raw 3) (jt raw):=by
  obtain⟨h1,h2,h3⟩:=h;match raw,h1,h2,h3 with
  | x0::x1::x2::x3::t,h1,h2,h3 =>
   have e0:b8 (x0::x1::x2::x3::t) 0=x0.toNat:=rfl;have e3:b8 (x0::x1::x2::x3::t) 3=x3.toNat:=rfl;have ea:fB (x0::x1::x2::x3::t)=256*x1.toNat+x2.toNat:=rfl;have ec:jt (x0::x1::x2::x3::t)=t.take x0.toNat:=rfl;rw[e0]at h2;rw[e3,ea,ec];simp only[aq]at h2;obtain⟨n,hn⟩:∃n,n=x0.toNat:=⟨_,rfl⟩
   rw[<-hn]at h2 |-;have l1:=x1.toNat_lt;have l2:=x2.toNat_lt;have ht:t=t.take n++[t[n]'aa]:=by
    have:=eW n t;conv=>lhs;rw[<-this]
    rw[dk aa,List.drop_of_length_le aa]
   obtain⟨y,hy⟩:∃y,y=t[n]'aa:=⟨_,rfl⟩
   rw[<-hy]at ht;obtain⟨c,hc⟩:∃c,c=t.take n:=⟨_,rfl⟩
   rw[<-hc]at ht |-;have hcl:c.length=n:=by rw[hc];simp;omega
   have hd:Jz (256*x1.toNat+x2.toNat) x3.toNat c=[x0,x1,x2,x3]++c:=by
    unfold Jz;rw[hcl,hn,P5,P5,show(256*x1.toNat+x2.toNat)/256=x1.toNat by omega,P5];have:aD (256*x1.toNat+x2.toNat)=x2:=by apply bL.1;rw[kt];omega
    rw[this]
   have hs:gT (x0::x1::x2::x3::t)=gT ([x0,x1,x2,x3]++c)+y.toNat:=by rw[ht];have:gT (([x0,x1,x2,x3]++c)++[y])=gT ([x0,x1,x2,x3]++c)+gT [y]:=Yv _ _;rw[show x0::x1::x2::x3::(c++[y])=([x0,x1,x2,x3]++c)++[y]from rfl,this];rfl
   rw[hs]at h3;have ly:=y.toNat_lt;unfold nC Yw;rw[hd,ht];have:aD (256-gT ([x0,x1,x2,x3]++c)%256)=y:=by apply bL.1;rw[kt];omega
   rw[this];rfl
 exact⟨key,λk hk=>by rw[<-hk];exact key⟩
structure Z9(S:List cv)(Z:au)(qs rs:bf):Prop where
 ex:∃init,rs=init++[nC 0 1 []]/\jv S Z=some (qs++init)/\Z.length=qs.length+init.length
 seg:mT S
 sz:∀n∈Z,1<=n/\n<=255
theorem Tc{S':List cv}{Z':au}:∀ {rs:bf} {S:List cv} {Z:au} {qs:bf},jv S Z=some qs->Z.length=qs.length->mT S->(∀n∈Z,1<=n/\n<=255)->(∀r∈rs,j0 r)->kX S Z rs=some (S',Z')->Z9 S' Z' qs rs
 | [],S,Z,qs,_,_,_,_,_,h=>by rw[kX]at h;cases h
 | raw::rs,S,Z,qs,hw,hl,hS,hZ,hr,h=>by
  have hok:=hr raw ah;by_cases bI:rs=[]
  ·subst bI;rw[Hl]at h;split at h
   ·rename_i he;cases h;obtain⟨e1,e2,e3⟩:=he;have:=(XG hok).2 1 e3;rw[e2,show jt raw=[]by unfold jt;rw[e1,List.take_zero]]at this;refine⟨⟨[],by rw[this];rfl,by rw[aZ];exact hw,by simpa using hl⟩,hS,hZ⟩
   cases h
  rw[Hk _ _ _ bI]at h;split at h
  ·rename_i hd;obtain⟨d1,d2,d3⟩:=hd;have hcl:=O3 hok;have uy:jt raw≠[]:=by intro e;rw[e]at hcl;simp at hcl;omega
   have e:=(XG hok).2 0 d1;have UT:=ams (a:=fB raw) uy hw;rw[hcl,<-e]at UT;have hb:b8 raw 0<=255:=Nat.le_of_lt_succ (raw[0]?.getD 0).toNat_lt;obtain⟨⟨init,i1,i2,i3⟩,i4,i5⟩:=Tc UT (by simp[hl]) (Pt hS uy aa) (λn hn=>by
    rcases cc.1 hn with hn|hn
    ·exact hZ n hn
    obtain rfl:=cz.1 hn;exact⟨Nat.pos_of_ne_zero d2,hb⟩) (λr hr2=>hr r (by simp[hr2])) h
   refine⟨⟨raw::init,by rw[i1];rfl,by rw[i2,bj];rfl,by simp only[ak,aq,aK]at i3 |-;omega⟩,i4,i5⟩
  cases h
structure Gi(fl:Nat)(l:ab)(S:List cv)(Z:au):Prop where
 ex:∃init,l=(init++[nC 0 1 []]).flatMap (lM fl)/\jv S Z=some init/\Z.length=init.length
 seg:mT S
 sz:∀n∈Z,1<=n/\n<=255
 len:2*Z.length<=l.length
theorem NL(fl:Nat):∀rs:bf,2*rs.length<=(rs.flatMap (lM fl)).length
 | []=>by simp
 | r::rs=>by have:=NL fl rs;have:=(Iq fl r).1;rw[bD,ak,aq];omega
theorem T7{S:List cv}(h:rB fl l=some (S,Z)):Gi fl l S Z:=by
 unfold rB at h;split at h
 ·cases h
 rename_i rs hr;obtain⟨r1,r2⟩:=sE.1 hr;obtain⟨⟨init,i1,i2,i3⟩,i4,i5⟩:=Tc (qs:=[]) (by rw[jv,ag rfl]) rfl (by unfold mT;simp) ah r2 h;rw[aL]at i2;simp only[aK,dR]at i3;refine⟨⟨init,by rw[<-i1];exact r1,i2,i3⟩,i4,i5,?_⟩;have:=NL fl rs;rw[<-r1,i1,ak]at this;omega
theorem ad5{S:List cv}(h:Gi fl l S Z):MC fl S (jd S Z)=some l:=by
 obtain⟨init,i1,i2,i3⟩:=h.ex;have e:(if jd S Z=[]then gv S else jd S Z)=Z:=by
  unfold jd;by_cases hu:Z=gv S
  ·rw[ag hu,ag rfl,hu]
  rw[ae hu];by_cases hz:Z=[]
  ·exfalso;rw[hz]at i2;have:=amt h.seg i2;rw[this]at hu;exact hu (by rw[hz];rfl)
  rw[ae hz]
 unfold MC;rw[e,i2,i1]
theorem Ua{S:List cv}(h:mT S):HQ (kJ S)=some S:=by unfold HQ;rw[ag rfl];show allM Ps (S.map wQ)=some S;refine xj ah λi x y hx hy=>?_;rw[ib,hy]at hx;cases hx;obtain⟨h1,h2,h3⟩:=h y (jX hy);unfold Ps;rw[ag ⟨rfl,rfl⟩];simp only;rw[ag ⟨by trivial,by trivial,by show(0:Int)<=(y.1:Int);omega,by show(y.1:Int)<65536;omega,h2,by show(y.2.length:Int)<=65536-(y.1:Int);omega⟩];rfl
theorem T4{l:ab}{x:ao×ab}:∀ {n:Nat},HN l n=some x->∃fl,fl<4/\gB fl l=some x
 | 0,h=>by cases h
 | n+1,h=>by
  unfold HN at h;split at h
  ·rename_i y hy;cases h;exact⟨3-n,aa,hy⟩
  exact T4 h
theorem ad4(h:gB fl l=some (v,r)):∃S Z,rB fl l=some (S,Z)/\(ct (kJ S)).1=0/\v=kJ S/\r=iD fl (jd S Z):=by
 unfold gB at h;split at h
 ·cases h
 rename_i S Z hr;split at h
 ·rename_i hv;cases h;exact⟨S,Z,hr,hv,rfl,rfl⟩
 cases h
theorem Ue(h:hC l=some (v,r)):∃fl S Z,fl<4/\Gi fl l S Z/\(ct (kJ S)).1=0/\v=kJ S/\r=iD fl (jd S Z):=by obtain⟨fl,hf,h1⟩:=T4 h;obtain⟨S,Z,h2,h3,h4,h5⟩:=ad4 h1;exact⟨fl,S,Z,hf,T7 h2,h3,h4,h5⟩
theorem Yx{S:List cv}(h:Gi fl l S Z):(jd S Z).length<=Z.length/\∀n∈jd S Z,1<=n/\n<=255:=by
 unfold jd;split
 ·exact⟨cE _,ah⟩
 exact⟨aQ _,h.sz⟩
theorem aed(hl:l.length<=1000)(h:hC l=some (v,r)):HO v r=some l:=by obtain⟨fl,S,Z,hf,F,h3,h4,h5⟩:=Ue h;have hz:=Yx F;have:=F.len;unfold HO;rw[h4,Ua F.seg];simp only;rw[h5,T6 hf aa hz.2];simp only;rw[ad5 F];simp only;rw[ag ⟨hl,by rw[h,h4,h5]⟩]
theorem I4(hl:Z.length<=1000)(hz:∀n∈Z,n<=255):(cm az (ints Z)).length<=10010:=by
 have:=wD (f:=az) (m:=10) (l:=ints Z) (by simp;omega) λx hx=>by obtain⟨n,hn,rfl⟩:=cJ.1 hx;have:=hz n hn;exact dq aa aa
 simp only[aW]at this;omega
theorem aja(hf:fl<4)(hl:Z.length<=1000)(hz:∀n∈Z,n<=255):(iD fl Z).length<=10020:=by
 have h1:=I4 hl hz;have h2:=dq (n:=(fl:Int)) aa aa;unfold iD;split
 ·simp
 rw[ak];omega
theorem amd{s:cv}(h:s.1<65536/\s.2≠[]/\s.2.length+s.1<=65536):VB 1048576 (wQ s) :=
 .mk (kj 4) (kj 0) (cE _) (by show 2<=_;omega) (by
  intro x hx;simp only[bP,tA,or_false]at hx;rcases hx with rfl|rfl<;>decide) (by show 2<=_;omega) (by
  intro x hx;simp only[bP,tA,or_false]at hx;rcases hx with rfl|rfl
  ·exact Cu ⟨aa,aa⟩
  exact zL aa)
theorem Qi{S:List cv}(h:mT S)(hl:S.length<=1000000):VB 1048576 (kJ S) :=
 .mk (kj 3) (kj 0) (cE _) (cE _) ah (by show(S.map wQ).length<=_;simp;omega) (by intro x hx;obtain⟨s,hs,rfl⟩:=cJ.1 (show x∈S.map wQ from hx);exact amd (h s hs))
theorem Qr:∀ {S:List cv} {Z:au} {rs:bf},mT S->jv S Z=some rs->S.length<=rs.length
 | [],_,_,_,_=>cE _
 | (a,d)::S,Z,rs,hS,h=>by
  obtain⟨q,Z',qs,h1,h2,rfl⟩:=F7 h;have:=Qr (λs hs=>hS s (by simp[hs])) h2;have hd:=(hS (a,d) ah).2.1;have hq:1<=q.length:=by
   cases Z with
   | nil=>rw[GV hd]at h1;cases h1
   | cons n Z =>
    rw[C6 hd]at h1;split at h1
    ·split at h1
     ·cases h1
     cases h1;simp
    cases h1
  simp only[ak,aq];omega
theorem aee(hl:b.length<=1000)(h:hC b=some (v,r)):VB 1048576 v/\(ct v).1=0/\(HQ v).isSome=true/\HO v r=some b/\r.length<=100000000/\∃ls,T5 r=some ls/\ls.length<=4/\(ls=[]↔r=[]):=by
 have fM:=aed hl h;obtain⟨fl,S,Z,hf,F,h3,h4,h5⟩:=Ue h;obtain⟨z1,z2⟩:=Yx F;have hlen:=F.len;obtain⟨init,i1,i2,i3⟩:=F.ex;have uv:=Qr F.seg i2;refine⟨by rw[h4];exact Qi F.seg aa,by rw[h4];exact h3,by rw[h4,Ua F.seg];rfl,fM,?_,?_⟩
 ·rw[h5];have:=aja hf (Z:=jd S Z) aa λn hn=>(z2 n hn).2;omega
 unfold T5;rw[h5,T6 hf aa z2];refine⟨_,rfl,by have:=afJ fl (jd S Z).length;omega,?_⟩;rw[afK hf,ajb,List.length_eq_zero_iff]
theorem Uc(l:ab):hC l=match gB 0 l with
  | some x=>some x
  | none=>match gB 1 l with
   | some x=>some x
   | none=>match gB 2 l with
    | some x=>some x
    | none=>match gB 3 l with
     | some x=>some x
     | none=>none:=rfl
theorem Ud(hf:f<4)(hno:∀g,g<f->gB g l=none){x:ao×ab}(h:gB f l=some x):hC l=some x:=by
 rw[Uc];obtain rfl|rfl|rfl|rfl:f=0\/f=1\/f=2\/f=3:=aa
 ·rw[h]
 ·rw[hno 0 aa,h]
 ·rw[hno 0 aa,hno 1 aa,h]
 rw[hno 0 aa,hno 1 aa,hno 2 aa,h]
theorem ME(h:∀g,g<4->gB g l=none):hC l=none:=by rw[Uc,h 0 aa,h 1 aa,h 2 aa,h 3 aa]
theorem ad3{g:Nat}(h:ig f l=some rs)(h1:gB f l=none):gB g l=none:=by
 cases hg:ig g l with
 | none=>unfold gB rB;rw[hg]
 | some rs' =>
  have e:=ai1 h hg;subst e;unfold gB rB at h1 |-;rw[h]at h1;rw[hg];simp only at h1 |-;cases hf:kX [] [] rs with
  | none=>rfl
  | some p =>
   rw[hf]at h1;simp only at h1 |-;split at h1
   ·cases h1
   rename_i hv;rw[ae hv]
theorem ad8(hf:f<4)(hno:∀g,g<f->gB g l=none){rs:bf}(h:ig f l=some rs):hC l=gB f l:=by
 cases h1:gB f l with
 | some x=>exact Ud hf hno h1
 | none=>exact ME λg _=>ad3 h h1
theorem ad2(h:ig f l=some rs):gB f l=match kX [] [] rs with
  | none=>none
  | some (S,Z)=>if(ct (kJ S)).1=0 then some (kJ S,iD f (jd S Z))else none:=by
 unfold gB rB;rw[h];all_goals first|rfl|(simp only;cases kX [] [] rs<;>rfl)
theorem ad1(h:ig f l=none):gB f l=none:=by unfold gB rB;rw[h]
theorem adf(S:List cv)(Z:au):kX S Z []=none:=by rw[kX]
abbrev vk:=Int×ao×ab
abbrev xA(k:Int)(x:ao×ab):vk:=(k,x.1,x.2)
def kT(l:ab):vk:=match gg l with
 | some x=>xA 3 x
 | none=>match fh l with
  | some x=>xA 2 x
  | none=>match hC l with
   | some x=>xA 6 x
   | none=>match gU l with
    | some x=>xA 4 x
    | none=>match iG l with
     | some x=>xA 5 x
     | none=>match iH l with
      | some x=>xA 1 x
      | none=>(0,.mk 2 0 l [] [],[])
def xg(x:vk)(l:ab):Prop:=(x.1=3/\FG x.2.1 x.2.2=some l)\/(x.1=2/\EV x.2.1 x.2.2=some l)\/(x.1=6/\HO x.2.1 x.2.2=some l)\/(x.1=4/\Cl x.2.1 x.2.2=some l)\/(x.1=5/\J5 x.2.1 x.2.2=some l)\/(x.1=1/\oM x.2.1 x.2.2=some l)\/(x.1=0/\x.2.1.bytes=l)
theorem Rz(hl:l.length<=1000):xg (kT l) l/\VB 1048576 (kT l).2.1/\(kT l).2.2.length<=100000000:=by
 unfold kT;cases h1:gg l with
 | some x =>obtain⟨a,_,_,b,c,_⟩:=akk hl h1;exact⟨.inl ⟨rfl,b⟩,a,c⟩
 | none =>
 cases h2:fh l with
 | some x =>obtain⟨a,_,_,b,c,_⟩:=ahA hl h2;exact⟨.inr (.inl ⟨rfl,b⟩),a,c⟩
 | none =>
 cases h3:hC l with
 | some x =>obtain⟨a,_,_,b,c,_⟩:=aee hl h3;exact⟨.inr (.inr (.inl ⟨rfl,b⟩)),a,c⟩
 | none =>
 cases h4:gU l with
 | some x =>obtain⟨a,_,_,b,c,_⟩:=akP hl h4;exact⟨.inr (.inr (.inr (.inl ⟨rfl,b⟩))),a,c⟩
 | none =>
 cases h5:iG l with
 | some x =>obtain⟨a,_,_,b,c,_⟩:=alf hl h5;exact⟨.inr (.inr (.inr (.inr (.inl ⟨rfl,b⟩)))),a,c⟩
 | none =>
 cases h6:iH l with
 | some x =>obtain⟨a,_,_,b,c,_⟩:=alz hl h6;exact⟨.inr (.inr (.inr (.inr (.inr (.inl ⟨rfl,b⟩))))),a,c⟩
 | none=>exact⟨.inr (.inr (.inr (.inr (.inr (.inr ⟨rfl,rfl⟩))))),zL aa,cE _⟩
theorem xg.inj{x:vk}{a:ab}(h:xg x a)(k:xg x b):a=b:=by
 obtain⟨n,v,r⟩:=x;unfold xg at h k;dsimp only at h k
 rcases h with⟨h0,h⟩|⟨h0,h⟩|⟨h0,h⟩|⟨h0,h⟩|⟨h0,h⟩|⟨h0,h⟩|⟨h0,h⟩<;>rcases k with⟨k0,k⟩|⟨k0,k⟩|⟨k0,k⟩|⟨k0,k⟩|⟨k0,k⟩|⟨k0,k⟩|⟨k0,k⟩<;>first
  | omega
  | exact dT (h.symm.trans k)
  | exact h.symm.trans k
theorem xg.i64{x:vk}(h:xg x l):cY x.1:=by rcases h with⟨h,_⟩|⟨h,_⟩|⟨h,_⟩|⟨h,_⟩|⟨h,_⟩|⟨h,_⟩|⟨h,_⟩<;>rw[h]<;>decide
theorem Rel.Rv(hT:cg P T){t t2 ty e:TypeId}{d de:TD}(hd:T[t]?=some d)(hu:d.under=.slice e)(hde:T[e]?=some de)(hsz:de.size=1)
  {w0 V0 V w:ad} {own:cx} (H:Rel w0 V0 own V w) {i b:Nat} {c:aC} {e':TypeId} (hi:own[i]?=some (.ay b c e')) {o dl dc n:Nat} {x:Sl} {ys:aC} (hx:Cells w x.a ys) (hn:n=min x.len dl) (hy:ys.length=n) (hn0:0<n) (hfit:o+n<=c.length) (h1:∀u∈ys,u.oneCell'=true)
  {k:aj->ad->Prop} (hk:∀w',Rel w0 V0 (own.set i (.ay b (c.take o++ys++c.drop (o+n)) e')) V w'->k (iv n) w'):bE P (Builtin.copy_ #[t,t2] ty #[.slice (some ⟨b,o,none⟩) dl dc,x.v]) w k:=by
 have DI:=hT t d hd;obtain⟨j,hj,hj1,fe,HY⟩:=(hT e de hde).info;have ht:P.underlying t=some (.slice e):=by obtain⟨d0,q1,q2⟩:=DI.under;rw[hu]at q2;cases d0<;>first|(simp_all[eS];done)|(simp only[eS]at q2;split at q2<;>cases q2)
 have hb:=H.sW hi;have hne:ys≠[]:=λh=>by rw[h]at hy;simp at hy;omega
 have hpl:=hx.1 hne;have uK:x.v=.slice (some ⟨bW x.a,bM x.a,none⟩) x.len x.cap:=by show Value.slice x.a x.len x.cap=_;conv=>lhs;rw[hpl]
 rw[uK];have kg:=run_copy_row (P:=P) w t t2 ty e b o dl dc ⟨bW x.a,bM x.a,none⟩ x.len x.cap c.toArray e' ys ht (by rw[hj];exact ax some (hj1.trans hsz)) hb (by rw[hy,hn]) (λj v hj=>by rw[addr_add];exact hx.2 j v hj) (by rw[List.size_toArray];omega) h1;rw[hy]at kg;refine .of kg (hk _ (H.Qb hi ⟨?_⟩));have hlt:b<w.heap.size:=(ku.1 hb).1;have fL:w.heap[b]=.cells c.toArray e' (0,0):=(ku.1 hb).2;unfold World.setRow;congr 1;apply Array.ext_getElem?;intro m;rw[Array.getElem?_modify,Array.getElem?_setIfInBounds];by_cases hm:b=m
 ·subst hm;rw[ag rfl,ag rfl,ag hlt,Array.getElem?_eq_getElem hlt,fL];rfl
 rw[ae hm,ae hm]
theorem aaK:cI .and .u64 1 4294967295=1:=by decide +kernel
theorem aaL:∀y:Nat,y<256->cI .and .u64 (y:Int) 4294967295=(y:Int):=by decide +kernel
theorem agp(hy:y<256)(w:ad):aB 355 [.int .u64 1,.int .u64 (y:Int)] w λv w'=>v=.tuple #[.int .u64 0,.int .u64 (y:Int)]/\w=w':=by
 refine eV Tryz.func355 51 [0,1,4,5,6,7,8,9,10,11,12,13] ?_;refine wk ?_;have p32:(2:Int)^min (gR 32) IntKind.u64.bits=4294967296:=ai;have e0:(y:Int)/4294967296=0:=aa;have e1:(1:Int)/4294967296=0:=ai;have wz:wr .u64 0=0:=ai;have wy:wr .u64 (y:Int)=y:=by show(y:Int)%18446744073709551616=y;omega
 have a0:cI .and .u64 0 4294967295=0:=by decide +kernel
 simp only[p32,aaK,aaL y hy,e0,e1,Int.zero_mul,Int.one_mul,Int.mul_zero,wz,wy,Int.add_zero,Int.zero_ediv,a0];exact⟨trivial,trivial⟩
theorem agq(hy:y<256)(w:ad):aB 329 [.int .u64 1,.int .u64 (y:Int)] w λv w'=>v=.tuple #[.int .u64 0,.int .u64 (y:Int)]/\w=w':=by refine eV Tryz.func329 30 [0,1,4,5,6,7,8,9] ?_;refine wk ?_;refine(agp hy w).use ?_;rintro v w'⟨rfl,rfl⟩;(repeat ((conv=>whnf);first|refine an ?_|refine H.ce ?_|refine H.db ?_|refine ea ?_|refine ol ?_|fail|refine cT ?_|refine cF ?_|refine cN ?_|refine cM ?_|refine H.lw ?_|refine H.ll ?_));(conv=>whnf)
theorem ai8{u z:aj}(_:m<=n):(eP m u++eP (n-m) z).take m++eP (min m (n-m)) u++(eP m u++eP (n-m) z).drop (m+min m (n-m))=eP (m+min m (n-m)) u++eP (n-(m+min m (n-m))) z:=by rw[List.take_left' ah,<-gK,Jg ah,List.replicate_append_replicate,aid];congr 2;omega
theorem ai9(hV:Sub V W){s:Sl}{u:UInt8}(hs:aF V s [u]){n:Nat}(h1:1<=n)(hn:n<256):aB 308 [s.v,iv (n:Int)] W λv w'=>∃r:Sl,v=r.v/\Rel W V [.row r 5 1 ((eP n u).flatMap aI)] V w':=by
 have H:=aG hV;have hlen:=hs.len;rw[List.length_singleton]at hlen;refine eV Tryz.func308 48 [0,1,4,5,6,7,8,10,26,37] ?_;refine wk ?_;rw[show wr .u64 ((s.len:Nat):Int)=1 by rw[hlen];rfl,show wr .u64 (n:Int)=(n:Int)by show(n:Int)%18446744073709551616=n;omega];refine(agq hn W).use ?_;rintro v w'⟨rfl,rfl⟩;refine wk ?_;refine ajW al rfl rfl rfl rfl rfl rfl aa (by simp;omega) aa λw b hnb=>?_;replace H:=H.EI hnb;clear hnb;simp only[jr]at H |-;refine wk ?_;refine Rel.Rv al rfl rfl rfl rfl H (i:=0) (n:=1) rfl (hs.up H.data).cells aa rfl ai (by simp;omega) Hf ?_;intro w H;simp only[bH]at H;replace H:=H.cB (c':=eP 1 (bv u)++eP (n-1) (bO .u8 0)) (by simp[aid]);refine wk ?_;refine aP (S:=Nat) al [0,1,4,5,6,7,10,26] (λm=>[(7,.slice (some ⟨b,0,none⟩) n n),(8,iv m)]) (λm w'=>1<=m/\m<=n/\Rel W V [.ay b (eP m (bv u)++eP (n-m) (bO .u8 0)) 5] V w') (λm _=>n-m) 1 ?_;conv=>whnf
 refine⟨sB,⟨aa,h1,H⟩,?_⟩;clear H;rintro m w⟨l7,hm,H⟩;dsimp only at l7 hm H |-;by_cases hlt:m<n
 ·refine wk ?_;refine dV 9 [] [0,1,2,3,4,5,6,7,8,9] H ?_;intro w H;refine wk ?_;simp only[jr];rw[show bo (some ⟨b,0,none⟩) m n 1=some ⟨b,m,none⟩by unfold bo;rw[ae aa];simp[addr_add]];have hb:=(H.sW (i:=0) rfl).cells;have hc:Cells w (bo (some ⟨b,0,none⟩) 0 n 1) (eP (min m (n-m)) (bv u)):=by rw[show bo (some ⟨b,0,none⟩) 0 n 1=some ⟨b,0,none⟩by unfold bo;split<;>simp[addr_add]];refine⟨λ_=>rfl,λj v hj=>hb.2 j v ?_⟩;obtain⟨hj1,fe⟩:=dH.1 hj;rw[Jh]at hj1;rw[List.getElem?_append_left (by simp;omega)];rw[List.getElem_replicate]at fe;rw[List.getElem?_replicate,ag aa,fe]
  refine Rel.Rv al rfl rfl rfl rfl H (i:=0) (n:=min m (n-m)) (x:=⟨bo (some ⟨b,0,none⟩) 0 n 1,m-0,n-0⟩) rfl hc (by show min m (n-m)=min (m-0) (n-m);omega) ah aa (by simp;omega) (λu' hu=>by rw[(ah9.1 hu).2];rfl) ?_;intro w H;simp only[bH]at H;rw[ai8 hm]at H;refine wk ?_;exact⟨sB,sB,m+min m (n-m),sB,⟨aa,aa,H⟩,aa⟩
 obtain rfl:m=n:=aa;refine wk ?_;replace H:=H.cB (c':=(eP m u).flatMap aI) (by rw[iu,List.map_replicate];simp);exact⟨⟨some ⟨b,0,none⟩,m,m⟩,rfl,H.gh (n:=m) (sz:=1) (by simp[iu]) (by simp only[maxLen];omega)⟩
theorem aF.one{X:ab}{x:UInt8}(h:aF V q (x::X)):aF V ⟨bo q.a 0 1 1,1,1⟩ [x]:=by
 obtain⟨p,c⟩:=h.aR (g:=bv) (λ_=>rfl) (show 0<(x::X).length by simp);refine⟨rfl,aQ _,λ_=>(zx p:Plain (bo q.a 0 1 1)),λj v hj=>?_⟩;show V.cell? ⟨bW (bo q.a 0 1 1),bM (bo q.a 0 1 1)+j,none⟩=some v;rw[zv,zw p ai];cases j with
 | zero=>simp at hj;rw[<-hj];exact c
 | succ j=>simp at hj
structure aau(W V:ad)(o:fV)(v:aj)(w':ad):Prop where
 ex:∃(V':ad) (r:Sl),Sub V V'/\Rel W V [] V' w'/\(match o with
  | none=>v=.tuple #[r.v,.bool false]
  | some o=>v=.tuple #[r.v,.bool true]/\aF V' r o)
theorem ab6{o:ab}{size:Nat}{A:ab}(h:lY l=(lY o).map (A++·))(hA:size<A.length):mo l size=none:=by
 unfold mo;rw[h];cases lY o with
 | none=>rfl
 | some y =>show(if(A++y).length=size/\gn (A++y)=l then some (A++y)else none)=none;rw[ae];rw[ak];omega
theorem alL(hV:Sub V W){s:Sl}{l:ab}(hs:aF V s l)(hl:l.length<=100000){size:Nat}(hm:size<=100000):aB 273 [s.v,iv (size:Int)] W (aau W V (mo l size)):=by
 have H:=aG hV;have hlen:=hs.len;refine eV Tryz.func273 72 [0,1,4,5,6,7,8,18,25,42] ?_;refine wk ?_;replace H:=H.br 5 1;refine aP (S:=Sl×ab×Sl×ab) al [0,1] (λk=>[(6,k.2.2.1.v),(7,k.1.v)]) (λk w'=>aF V k.1 k.2.1/\lY l=(lY k.2.1).map (k.2.2.2++·)/\k.2.1.length<=l.length/\k.2.2.2.length<=size+129/\Rel W V [.row k.2.2.1 5 1 (k.2.2.2.flatMap aI)] V w') (λk _=>k.2.1.length) (s,l,⟨none,0,0⟩,[]) ?_;conv=>whnf
 refine⟨sB,⟨hs,ah,aQ _,cE _,H⟩,?_⟩;clear H;rintro⟨q,X,r,A⟩w⟨hq,hd,hX,hA,H⟩;dsimp only at hq hd hX hA H |-;have cD:=hq.len;have Bd:=hq.cap;have hrl:r.len=A.length:=H.dW (i:=0) rfl (λ_=>rfl) ai;by_cases dz:size<A.length
 ·have aeu:=ab6 hd dz;rw[aeu];obtain⟨V2,hV2,H,hr⟩:=Rel.aJ H;by_cases h0:X.length=0
  all_goals
   refine wk ?_;exact⟨V2,r,hV2,H.sx,rfl⟩
 cases X with
 | nil =>
  rw[aK]at cD;rw[Sd]at hd;have hd:lY l=some A:=by rw[hd];simp
  obtain⟨V2,hV2,H,hr⟩:=Rel.aJ H;by_cases hz:A.length=size
  ·refine wk ?_;refine(ahf H.data hr aa).use ?_;rintro v w⟨r2,rfl,K⟩;replace H:=Rel.call H K;simp only[aZ]at H;obtain⟨V3,aw,H,hr2⟩:=Rel.aJ H;refine wk (H.us (G9 H.data hr2 ((hs.up hV2).up aw)) ?_);intro w H;refine wk ?_;have hu:mo l size=if gn A=l then some A else none:=by unfold mo;rw[hd];simp only[hz,true_and]
   rw[hu];by_cases hp:gn A=l
   ·rw[ag hp,bw hp];exact⟨V3,r,hV2.trans aw,H.sx,rfl,hr.up aw⟩
   rw[ae hp,bA hp];exact⟨V3,r,hV2.trans aw,H.sx,rfl⟩
  have hu:mo l size=none:=by unfold mo;rw[hd];simp only;rw[ae (λh=>hz h.1)]
  rw[hu];refine wk ?_;exact⟨V2,r,hV2,H.sx,rfl⟩
 | cons c R =>
  rw[aq]at cD hX;obtain⟨p0,c0⟩:=hq.aR (g:=bv) (λ_=>rfl) (show 0<(c::R).length by simp);rw[qA]at c0;rw[Lc]at hd;have DG:=c.toNat_lt;have hf:=hq.rest (k:=1) ah;rw[zf,mf]at hf;have hfl:=hf.len;refine wk ?_;by_cases kg:129<=c.toNat/\0<R.length
  ·rw[ag kg]at hd;cases R with
   | nil=>simp at kg
   | cons y R =>rw[aq]at hX cD hfl;have ho:=hf.one;have HS:=hf.rest (k:=1) ah;rw[zf,mf]at HS;rw[List.headD_cons,zf,mf]at hd;refine wk ?_;rw[show((c.toNat:Nat):Int)-126=((c.toNat-126:Nat):Int)by omega];refine(ai9 (n:=c.toNat-126) H.data ho aa aa).use ?_;rintro v w⟨r2,rfl,K⟩;replace H:=H.cq K;refine wk ?_;refine Rel.eB H (i:=0) rfl (by simp only[Jh];omega) ?_;intro r1 w H;simp only[bH]at H;refine wk ?_;exact⟨sB,(_,R,r1,A++eP (c.toNat-126) y),sB,⟨HS,by rw[hd,tC];congr 1;funext z;simp,by dsimp only;omega,by simp only[ak,Jh];omega,H⟩,by simp only[aq];omega⟩
  rw[ae kg]at hd;by_cases Ur:c.toNat<128/\c.toNat<R.length
  ·rw[ag Ur]at hd;have hh:=hf.head (k:=c.toNat+1) aa;have HS:=hf.rest (k:=c.toNat+1) aa;refine wk ?_;refine Rel.jO H (i:=0) rfl hh (by simp only[bg];omega) ?_;intro r1 w H;simp only[bH]at H;refine wk ?_;exact⟨sB,(_,R.drop (c.toNat+1),r1,A++R.take (c.toNat+1)),sB,⟨HS,by rw[hd,tC];congr 1;funext z;simp,by simp only[aU];omega,by simp only[ak,bg];omega,H⟩,by simp only[aq,aU];omega⟩
  rw[ae Ur]at hd;have hu:mo l size=none:=by unfold mo;rw[hd];rfl
  rw[hu];by_cases h1:129<=c.toNat
  ·refine wk ?_;exact⟨V,⟨none,0,0⟩,aS _,H.sx,rfl⟩
  by_cases h2:c.toNat<128
  all_goals
   refine wk ?_;exact⟨V,⟨none,0,0⟩,aS _,H.sx,rfl⟩
theorem SG{P:Program}{e:TypeId}{d:TD}(hd:ed P e d)(hu:d.under=.int .u8){a b:ab}{w:ad}{m:Nat}:∀is:au,(∀i∈is,i<a.length/\i<b.length) ->
  (Op.eqItems (m+1) e 1 ⟨a.map bv⟩ ⟨b.map bv⟩ is).run P w=.ok (decide (∀i∈is,a[i]?=b[i]?)) w
 | [],_=>by simp[Op.eqItems]
 | i::is,h=>by
  obtain⟨h1,h2⟩:=h i ah;have ih:=SG (w:=w) (m:=m) hd hu is λj hj=>h j (by simp[hj]);have cZ:=hd.int hu w;have ha:rM d.under=false:=by rw[hu];rfl
  have p1:=JJ hd ha (l:=a.map bv) (off:=i*1) (v:=bv a[i]) (by simp[h1]) w;have p2:=JJ hd ha (l:=b.map bv) (off:=i*1) (v:=bv b[i]) (by simp[h2]) w;have p3:(Op.equalIn (m+1) e (bv a[i]) (bv b[i])).run P w=.ok (decide (a[i]=b[i])) w:=by
   simp only[Op.equalIn,eU,cZ,fb,if_true,fP];by_cases hab:a[i]=b[i]
   ·simp[hab]
   have:¬((a[i].toNat:Int)=(b[i].toNat:Int)):=λhc=>hab (bL.1 aa);simp[hab,this]
  simp only[Op.eqItems,eU,p1,p2,p3,fb];by_cases hab:a[i]=b[i]
  ·simp only[hab,decide_true,Bool.not_true,sw,if_false];rw[ih];congr 1;refine decide_eq_decide.2 ?_;constructor
   ·intro hh j hj;rcases bP.1 hj with rfl|hj
    ·simp[h1,h2,hab]
    exact hh j hj
   intro hh j hj;exact hh j (by simp[hj])
  simp only[hab,decide_false,Bool.not_false,if_true,fP];congr 1;refine(bA λhh=>hab ?_).symm;have:=hh i ah;simpa [h1,h2]using this
theorem ajD(hT:cg P T){t e:TypeId}{n:Nat}{d de:TD}(hd:T[t]?=some d)(hu:d.under=.array n e)(hde:T[e]?=some de)(hue:de.under=.int .u8)(hsz:de.size=1){a b:ab}(ha:a.length=n)(hb:b.length=n)(w:ad)(m:Nat) :
  (Op.equalIn (m+2) t (.agg ⟨a.map bv⟩) (.agg ⟨b.map bv⟩)).run P w=.ok (decide (a=b)) w:=by
 have fS:=hT t d hd;have AW:=hT e de hde;obtain⟨d0,q1,q2⟩:=fS.under;have UQ:P.underlying t=some (.array n e):=by rw[hu]at q2;cases d0<;>simp_all[eS]<;>(split at q2<;>simp_all)
 obtain⟨i,hi,kZ,_⟩:=AW.info;have hc:P.cellsOf e=1:=by simp[Program.cellsOf,hi,kZ,hsz]
 rw[run_equalIn_array w (m+1) _ _ UQ hi,hc,SG AW hue _ (λi hi=>by simp at hi;omega)];congr 1;refine decide_eq_decide.2 ⟨λh=>zc λi=>?_,λh=>by simp[h]⟩;by_cases hin:i<n
 ·exact h i (by simpa using hin)
 rw[lO aa,lO aa]
theorem ajU(hT:cg P T){t e:TypeId}{n:Nat}{d de:TD}(hg:P.eqGuardType P.depth t=false)(hd:T[t]?=some d)(hu:d.under=.array n e)(hde:T[e]?=some de)(hue:de.under=.int .u8)(hsz:de.size=1){a b:ab}(ha:a.length=n)(hb:b.length=n){x y:Operand}{w:ad}{k:aj->ad->Prop}
  (hk:k (.bool (decide (a=b))) w):bE P (do eqGuard .eql t x y (.agg ⟨a.map bv⟩) (.agg ⟨b.map bv⟩);binOp .eql t (.agg ⟨a.map bv⟩) (.agg ⟨b.map bv⟩)) w k:=by
 refine .of (v:=.bool (decide (a=b))) (w':=w) ?_ hk;rw[eU,run_eqGuard_agg (P:=P) w .eql t x y _ _ hg];simp only[fb];rw[run_eql_struct,ajD hT hd hu hde hue hsz ha hb w 9998];rfl
abbrev GP(c:cd):aC:=[bv c.1,bv c.2.1,bv c.2.2]
abbrev As(c:cd):aj:=.agg #[bv c.1,bv c.2.1,bv c.2.2]
abbrev pL:=aA GP
theorem pL.sT{p:List cd}(h:pL V s p){i:Nat}(hi:i<p.length):Plain s.a/\V.cell? ⟨bW s.a,bM s.a+i*3,none⟩=some (bv p[i].1)/\V.cell? ⟨bW s.a,bM s.a+i*3+1,none⟩=some (bv p[i].2.1)/\V.cell? ⟨bW s.a,bM s.a+i*3+1+1,none⟩=some (bv p[i].2.2):=by obtain⟨p,c⟩:=aA.get h (n:=3) (λ_=>rfl) ai hi;exact⟨p,c 0 _ rfl,c 1 _ rfl,c 2 _ rfl⟩
theorem ajV{x y:Operand}{a b:cd}{k:aj->ad->Prop}(hk:k (.bool (decide (a=b))) w):bE Tryz.prog (do eqGuard .eql 327 x y (As a) (As b);binOp .eql 327 (As a) (As b)) w k:=by
 have e:decide (a=b)=decide (ni a=ni b):=decide_eq_decide.2 ⟨λh=>by rw[h],λh=>by simp only[ni,gp,and_true]at h;exact Prod.ext h.1 (Prod.ext h.2.1 h.2.2)⟩
 rw[e]at hk;exact ajU (n:=3) (e:=5) (a:=ni a) (b:=ni b) al av rfl rfl rfl rfl rfl rfl rfl hk
theorem ae9(hV:Sub V W){s:Sl}{p:List cd}(hs:pL V s p)(hp:p.length<=100000)(c:cd):aB 278 [s.v,As c] W λv w'=>v=iv (if c∈p then(tv p c:Int)else -1)/\Rel W V [] V w':=by
 have H:=aG hV;have hlen:=hs.len;refine eV Tryz.func278 19 [0,1,3,4,5,7,8,9,16] ?_;refine H.wn ?_;intro w b3 H;refine wk ?_;refine aP (S:=Nat) al [0,1,3,7] (λk=>[(8,iv k)]) (λk w'=>k<=p.length/\c∉p.take k/\Rel W V [.ay b3 (GP c) 327] V w') (λk _=>p.length-k) 0 ?_;conv=>whnf
 refine⟨sB,⟨aa,ah,H⟩,?_⟩;clear H;rintro k w⟨hk,hn,H⟩;dsimp only at hk hn H |-;by_cases hlt:k<p.length;rotate_left
 ·rw[bJ aa]at hn;rw[ae hn];refine wk ?_;exact H.sx
 obtain⟨hpl,g1,g2,g3⟩:=hs.sT hlt;refine wk ?_;refine dV 4 [] [0,1,2,3,4,5] H ?_;intro w H;refine wk ?_;refine ajV ?_;refine wk ?_;by_cases he:c=p[k]
 ·have hm:c∈p:=he▸bS hlt;rw[ag hm,bw he];have hpos:tv p c=k:=by
   have hd:=eW k p;rw[dk hlt,<-he]at hd;have:∀(l:List cd),c∉l->∀r,tv (l++c::r) c=l.length:=by
    intro l;induction l with
    | nil=>intro _ r;simp[tv]
    | cons x l ih =>intro h r;simp only[bP,not_or]at h;show(if x=c then 0 else tv (l++c::r) c+1)=_;rw[ae (λe=>h.1 e.symm),ih h.2];rfl
   have h2:=this _ hn (p.drop (k+1));rw[hd,bg]at h2;omega
  refine wk ?_;exact⟨by rw[hpos],H.sx⟩
 rw[bA he];refine wk ?_;refine⟨sB,k+1,sB,⟨aa,?_,H.sx⟩,aa⟩;rw[bK hlt];simp only[cc,cz,not_or];exact⟨hn,he⟩
theorem abR(hV:Sub V W){s:Sl}{p:List cd}(hs:pL V s p)(hp:p.length<=100000)(c:cd):aB 271 [s.v,As c] W λv w'=>v=.bool (decide (c∈p))/\Rel W V [] V w':=by
 have H:=aG hV;refine eV Tryz.func271 9 [0,1,3,4] ?_;refine H.wn ?_;intro w b3 H;refine wk (H.us (ae9 H.data hs hp c) ?_);intro w H;refine wk ?_;refine⟨ax ic (decide_eq_decide.2 ?_),H.sx⟩;by_cases hm:c∈p
 ·rw[ag hm];exact⟨λ_=>hm,λ_=>by omega⟩
 rw[ae hm];exact⟨λh=>by omega,λh=>absurd h hm⟩
structure aae(W V:ad)(o:Option (List cd×ab))(v:aj)(w':ad):Prop where
 ex:∃(V':ad) (r t:Sl),Sub V V'/\Rel W V [] V' w'/\(match o with
  | none=>v=.tuple #[.slice none 0 0,.slice none 0 0,.bool false]
  | some (p,l)=>v=.tuple #[r.v,t.v,.bool true]/\pL V' r p/\aF V' t l)
theorem ajT{arr e:TypeId}{a:Option Addr}{len cap:Nat}(h:P.underlying arr=some (.array n e))(hn:n<=len){k:aj->ad->Prop}(hk:k (.pointer a) w):bE P (Instr.arrayAt arr (.slice a len cap)) w k :=
 .of (by simp[Instr.arrayAt,run_underlying h,Nat.not_lt.2 hn]) hk
theorem abL:∀ {n i:Nat},3*n<=l.length->i<n->(mz (l.take (3*n)))[i]?=some (fG l i):=by intro n i hn hi;rw[KW (l.take (3*n)) n (by rw[bg];omega),ib,sd hi];simp only[gQ,fG,z8];rw[ON aa,ON aa,ON aa]
theorem GR(hn:3*n<=l.length)(hk:k<=n):(mz (l.take (3*n))).take k=(bZ k).map (fG l):=by
 refine zc λi=>?_;by_cases hi:i<k
 ·rw[ON hi,abL hn aa,ib,sd hi];rfl
 rw[lO (by simp;omega),lO (by simp;omega)]
theorem sP(h:aF V q l){i:Nat}(hi:i<l.length):Plain q.a/\V.cell? ⟨bW q.a,bM q.a+i,none⟩=some (bv (z8 l i)):=by obtain⟨p,c⟩:=h.aR (g:=bv) (λ_=>rfl) hi;refine⟨p,?_⟩;rw[c];simp[z8,bz hi]
theorem akx{a:Option Addr}(h:Plain a){l m n:Nat}(hm:m≠l):bo a l m n=some ⟨bW a,bM a+l*n,none⟩:=by have:=zx h (l:=l) (m:=m) (size:=n);rw[Plain,zv,zw h hm]at this;exact this
theorem aiP(hV:Sub V W){s:Sl}{b:ab}(hs:aF V s b)(hl:b.length<=1000000000){f:Nat}(_:f<32):aB 210 [s.v,iv ((f/16:Nat):Int)] W (aae W V (jq f b)):=by
 have H:=aG hV;have hlen:=hs.len;have og:=hs.cap;obtain⟨most,yq⟩:∃m,m=nE f:=⟨_,rfl⟩
 have aep:=EG f;refine nX al Tryz.func210 rfl av 68 rfl ah [0,1,4,5,6,7,8,9,10,11,13,30,41,42,43,44,57] ?_;refine aM.cA al ?_;refine wk ?_;refine aM.cA al ?_;refine wk ?_;refine aM.lq al (λ_:Unit=>[(0,s.v),(7,iv most)]) (λ_ w'=>w'=W) ?_ ?_
 ·by_cases hd:f/16=1
  ·obtain rfl:most=16:=by rw[yq];unfold nE;rw[ag hd]
   refine wk ?_;exact⟨(),sB,rfl⟩
  obtain rfl:most=2:=by rw[yq];unfold nE;rw[ae hd]
  refine wk ?_;exact⟨(),sB,rfl⟩
 rintro _ w rfl;refine aM.go al ?_;cases b with
 | nil =>rw[aK]at hlen;refine wk ?_;exact⟨V,⟨none,0,0⟩,⟨none,0,0⟩,aS _,H.sx,rfl⟩
 | cons c l =>
  obtain⟨p0,c0⟩:=hs.aR (g:=bv) (λ_=>rfl) (show 0<(c::l).length by simp);rw[qA]at c0;rw[aq]at hlen hl;have DG:=c.toNat_lt;by_cases h1:c.toNat=0
  ·have e:jq f (c::l)=none:=by unfold jq;simp only;rw[ae (λh=>by have:=h.1;omega)]
   rw[e];refine wk ?_;exact⟨V,⟨none,0,0⟩,⟨none,0,0⟩,aS _,H.sx,rfl⟩
  by_cases h2:most<c.toNat
  ·have e:jq f (c::l)=none:=by unfold jq;simp only;rw[ae (λh=>by have:=h.2.1;omega)]
   rw[e];refine wk ?_;exact⟨V,⟨none,0,0⟩,⟨none,0,0⟩,aS _,H.sx,rfl⟩
  have ht:=hs.rest (k:=1) ah;rw[zf,mf]at ht;have htl:=ht.len;obtain⟨t,yG⟩:∃t:Sl,t=⟨bo s.a 1 s.cap 1,s.len-1,s.cap-1⟩:=⟨_,rfl⟩
  rw[<-yG]at ht htl;have uH:=ht.cap;by_cases h3:3*c.toNat<=l.length;rotate_left
  ·have e:jq f (c::l)=none:=by unfold jq;simp only;rw[ae (λh=>h3 h.2.2.1)]
   rw[e];refine wk ?_;exact⟨V,⟨none,0,0⟩,⟨none,0,0⟩,aS _,H.sx,rfl⟩
  have LX:1<=c.toNat/\c.toNat<=nE f:=aa;refine wk ?_;rw[show Value.slice (bo s.a (gR 1) s.cap 1) (s.len-gR 1) (s.cap-gR 1)=t.v by rw[yG];rfl];clear yG;obtain⟨n,hn⟩:∃n,n=c.toNat:=⟨_,rfl⟩
  rw[<-hn]at LX h3 |-;have H:=H.br 327 3;refine aP (S:=Nat×Sl) al [0,1,7,8,13,30,41,42] (λk=>[(9,k.2.v),(43,iv k.1)]) (λk w'=>k.1<=n/\((bZ k.1).map (fG l)).Nodup/\Rel w V [.row k.2 327 3 (((bZ k.1).map (fG l)).flatMap GP)] V w') (λk _=>n-k.1) (0,⟨none,0,0⟩) ?_;conv=>whnf
  refine⟨sB,⟨aa,ah,H⟩,?_⟩;clear H;rintro⟨k,r⟩w'⟨hk,gb,H⟩;dsimp only at hk gb H |-;have hrl:r.len=((bZ k).map (fG l)).length:=H.dW (i:=0) rfl (λ_=>rfl) ai;rw[aW,gq]at hrl;by_cases hlt:k<n
  ·obtain⟨q0,d0⟩:=sP ht (i:=3*k) aa;obtain⟨_,d1⟩:=sP ht (i:=3*k+1) aa;obtain⟨_,d2⟩:=sP ht (i:=3*k+2) aa;refine wk ?_;refine ajT (n:=3) (e:=5) av aa ?_;rw[akx q0 aa,show(3*(k:Int)).toNat*1=3*k by omega];refine H.wn ?_;intro w KG H;refine H.wg ?_;intro w H;refine(abR (aS _) (H.cV (i:=1) rfl (λ_=>rfl) ai) (by simp;omega) (fG l k)).use ?_;rintro v w2⟨rfl,K⟩;replace H:=Rel.ext H K.base;by_cases hc:fG l k∈(bZ k).map (fG l)
   ·have e:jq f (c::l)=none:=by
     unfold jq;simp only;rw[ae];rintro⟨_,_,_,h4⟩;rw[<-hn]at h4;have h5:=GR h3 (k:=k+1) aa;have h6:=(h4.sublist (List.take_sublist (k+1) _))
     rw[h5,oH,dU,zd]at h6;exact(rZ.1 h6).2.2 _ hc _ (cz.2 rfl) rfl
    rw[e,bw hc];refine wk ?_;exact⟨V,⟨none,0,0⟩,⟨none,0,0⟩,aS _,H.sx,rfl⟩
   rw[bA hc];refine H.wg ?_;intro _ w H;refine Rel.eH (f:=GP) (l:=(bZ k).map (fG l)) (x:=fG l k) rfl (λ_=>rfl) (by simp[Value.oneCell',bv]) H (by rw[aW,gq];show(k+1)*3<=_;omega) (by rw[aW,gq];omega) ?_;intro r1 w H;have MV:((bZ (k+1)).map (fG l)).Nodup:=by rw[oH,dU,zd,rZ];exact⟨gb,ah,λa ha b hb e=>hc (by rw[cz]at hb;rw[<-hb,<-e];exact ha)⟩
   refine wk ?_;rw[show(bZ k).map (fG l)++[fG l k]=(bZ (k+1)).map (fG l)by rw[oH,dU];rfl]at H;exact⟨sB,(k+1,r1),sB,⟨by dsimp only;omega,MV,H.sx⟩,by dsimp only;omega⟩
  obtain rfl:k=n:=aa;have h4:=GR h3 (k:=k) (aQ _);have h5:(mz (l.take (3*k))).length=k:=(CZ k (by rw[bg];omega)).2;rw[bJ aa]at h4;have e:jq f (c::l)=some ((bZ k).map (fG l),l.drop (3*k)):=by unfold jq;simp only;rw[<-hn,ag ⟨LX.1,LX.2,h3,by rw[h4];exact gb⟩,h4]
  rw[e];obtain⟨V2,hV2,H,hr⟩:=Rel.aJ H;have jG:=ht.rest (k:=3*k) aa;refine wk ?_;refine dV 19 [] [0,1,2,3,4,5,6,7] H ?_;intro w H;refine wk ?_;exact⟨V2,r,_,hV2,H.sx,rfl,hr,jG.up hV2⟩
theorem GG(h:n<256){x:Int}(hx:x=n):[bO .u8 (wr .u8 x)]=[aD n].flatMap aI:=by
 have e1:wr .u8 x=(n:Int):=by rw[hx];show(n:Int)%256=_;omega
 have e2:(aD n).toNat=n:=by rw[kt];omega
 simp only[bD,eL,aI,bv,aZ,e1,e2]
theorem adi(hV:Sub V W){s:Sl}{p:List cd}(hs:pL V s p)(hp:p.length<=16):aB 213 [s.v] W λv w'=>∃r:Sl,v=r.v/\Rel W V [.row r 5 1 ((rT p).flatMap aI)] V w':=by
 have H:=aG hV;have hlen:=hs.len;refine eV Tryz.func213 21 [0,2,3,5,10,11,12,13] ?_;refine H.wn ?_;intro w b9 H;refine wk ?_;replace H:=H.cB (GG (n:=p.length) aa aa);replace H:=H.gh (n:=1) (e:=5) (sz:=1) rfl (by simp[maxLen]);refine aP (S:=Nat×Sl) al [0,2,10,11] (λk=>[(3,k.2.v),(12,iv k.1)]) (λk w'=>k.1<=p.length/\Rel W V [.row k.2 5 1 ((aD p.length::gi (p.take k.1)).flatMap aI)] V w') (λk _=>p.length-k.1) (0,⟨some ⟨b9,0,none⟩,1,1⟩) ?_;conv=>whnf
 refine⟨sB,⟨aa,H⟩,?_⟩;clear H;rintro⟨k,r⟩w⟨hk,H⟩;dsimp only at hk H |-;by_cases hlt:k<p.length
 ·obtain⟨hpl,g1,g2,g3⟩:=hs.sT hlt;refine H.wn ?_;intro w b5 H;refine H.wg ?_;intro w H;obtain⟨V2,hV2,H,hb5⟩:=H.cU;have hx:aF V2 ⟨some ⟨b5,0,none⟩,3,3⟩ (ni p[k]):=⟨rfl,aQ _,hb5.cells⟩
  refine Rel.jO H (i:=0) rfl hx (by rw[aq,my,bg];show _+3<=_;omega) ?_
  intro r1 w H;replace H:=H.less (aS _) hV2;simp only[bH]at H;refine wk ?_;refine⟨sB,(k+1,r1),sB,⟨by dsimp only;omega,?_⟩,by dsimp only;omega⟩;rw[bK hlt];simp only[gi,cw,bD,eL,aZ,bb]at H |-;exact H
 rw[bJ aa]at H;refine wk ?_;exact⟨r,rfl,H⟩
theorem aje(hV:Sub V W){f:Nat}(hf:f<64){s:Sl}{p:List cd}(hs:pL V s p)(hp:p.length<=16):aB 134 [.agg (ml f s).toArray] W λv w'=>∃r:Sl,v=r.v/\Rel W V [.row r 5 1 ((mN f p).flatMap aI)] V w':=by
 have H:=aG hV;refine eV Tryz.func134 22 [0,1,2,3,7] ?_;refine H.wn ?_;intro w b1 H;unfold mN;by_cases h48:f=48
 ·rw[ag h48];refine wk ?_;replace H:=H.br 5 1;exact⟨⟨none,0,0⟩,rfl,H.sx⟩
 rw[ae h48];refine wk ?_;refine H.us (U5 H.data aa s) ?_;intro w H;unfold jM;by_cases h32:f<32
 ·rw[ag h32];refine wk ?_;obtain⟨V2,hV2,H,hb1⟩:=(H.sx (own':=[.ay b1 (ml f s) _])).cU;have k0:=hb1.cS (i:=0) rfl;have k1:=hb1.cS (i:=1) rfl;refine dX (id:=4) V2 [3,6] [1,2,5] [0,1,2,4,5,3,6,7,8] [(3,[]),(6,[]),(7,[3,6])] H ?_;intro w H;repeat' (refine wk ?_;first|(first|refine Kv.go H ?_|refine Kv.go2 H (by assumption) ?_|refine jI ?_|refine And.intro ?_ ?_|(refine H.nA ?_;intro w _ H))|(refine(adi H.data (hs.up hV2) hp).use ?_;rintro q w⟨r,rfl,K⟩;(replace H:=Rel.call H K);simp only[aZ,bb,aL]at H))
  ·replace H:=H.lJ;refine wk ?_;replace H:=H.cB (GG (n:=f) aa aa);replace H:=H.gh (n:=1) (e:=5) (sz:=1) rfl (by simp[maxLen]);replace H:=H.lJ;refine Rel.eB H (i:=0) rfl (by unfold rT;simp only[aq,aK,my];omega) ?_
   intro r1 w H;replace H:=H.less (aS _) hV2;simp only[bH]at H;refine wk ?_;exact⟨r1,rfl,H⟩
  refine wk ?_;replace H:=H.cB (GG (n:=f) aa aa);replace H:=H.gh (n:=1) (e:=5) (sz:=1) rfl (by simp[maxLen]);replace H:=H.lJ;refine Rel.eB H (i:=0) rfl (by unfold rT;simp only[aq,aK,my];omega) ?_
  intro r1 w H;replace H:=H.less (aS _) hV2;simp only[bH]at H;refine wk ?_;exact⟨r1,rfl,H⟩
 rw[ae h32];refine H.wg ?_;intro _ w H;replace H:=H.cB (GG (n:=f) aa aa);replace H:=H.gh (n:=1) (e:=5) (sz:=1) rfl (by simp[maxLen]);exact⟨_,rfl,H.sx⟩
theorem aaI:∀f:Nat,f<256->cI .and .i64 (f:Int) 15=((f%16:Nat):Int):=by decide +kernel
theorem X9{x sh:Nat}{y:Int}(hy:y=sh)(h:sh<=64):(x:Int)/2^min y.toNat IntKind.i64.bits=((x/2^sh:Nat):Int):=by
 have e:min y.toNat IntKind.i64.bits=sh:=by rw[hy,jr];show min sh 64=sh;omega
 rw[e,Int.natCast_ediv,Int.natCast_pow];rfl
structure aao(W V:ad)(o:fV)(v:aj)(w':ad):Prop where
 ex:∃(V':ad) (r:Sl),Sub V V'/\Rel W V [] V' w'/\(match o with
  | none=>v=.tuple #[.slice none 0 0,.bool false]
  | some x=>v=.tuple #[r.v,.bool true]/\aF V' r x)
theorem alg(c:UInt8):[bv c,bv c,bv c]=[c,c,c].flatMap aI:=rfl
theorem Rp{ps:Sl}(hp:pL V ps pal){k:Nat}(hk:k<pal.length):aF V ⟨bo (some ⟨bW ps.a,bM ps.a+k*3,none⟩) 0 3 1,3-0,3-0⟩ (ni pal[k]):=by
 obtain⟨q0,g1,g2,g3⟩:=hp.sT hk;refine⟨rfl,aQ _,?_⟩;show Cells V (bo (some ⟨bW ps.a,bM ps.a+k*3,none⟩) 0 3 1) _;have e:bo (some ⟨bW ps.a,bM ps.a+k*3,none⟩) 0 3 1=some ⟨bW ps.a,bM ps.a+k*3,none⟩:=by unfold bo;rw[ae ai];simp[addr_add]
 rw[e];refine⟨λ_=>rfl,λj v hj=>?_⟩;simp only[bW,bM];match j,hj with
 | 0,hj=>cases hj;exact g1
 | 1,hj=>cases hj;exact g2
 | 2,hj=>cases hj;exact g3
 | j+3,hj=>simp at hj
theorem aiR(hV:Sub V W){f:Nat}(hf:f<64){ps:Sl}{pal:List cd}(hp:pL V ps pal)(hpo:mW f pal){s:Sl}{row:ab}(hs:aF V s row){wd:Nat}(hw:wd<=64)(hl:row.length=rowOf f wd):aB 274 [.agg (ml f ps).toArray,s.v,iv (wd:Int)] W (aao W V (lR f pal wd row)):=by
 have H:=aG hV;have hlen:=hs.len;have hb:=Ak f;have hlb:row.length<=200:=by rw[hl];unfold rowOf;have:wd*bitsOf f<=64*24:=mg hw hb.2;omega
 refine eV Tryz.func274 88 [0,1,2,3,6,7,8,10,11,12,13,14,16,17,20,22,23,24,25,42,43,44,74,79,80] ?_;refine H.wn ?_;intro w b3 H;refine wk ?_;refine H.us (G3 H.data aa ps) ?_;intro w H;unfold lR;by_cases h3:f/16=3
 ·rw[ag h3];refine wk ?_;exact⟨V,s,aS _,H.sx,rfl,hs⟩
 rw[ae h3];by_cases h2:f/16=2
 ·rw[ag h2];refine wk ?_;replace H:=H.br 5 1;refine aP (S:=Nat×Sl) al [0,1,2,3,6,7,11,12,13,14,16,17,20,22,23,42,43,44,74,79,80] (λk=>[(8,k.2.v),(24,iv k.1)]) (λk w'=>k.1<=row.length/\Rel W V [.row k.2 5 1 (((row.take k.1).flatMap λc=>[c,c,c]).flatMap aI)] V w') (λk _=>row.length-k.1) (0,⟨none,0,0⟩) ?_;conv=>whnf
  refine⟨sB,⟨aa,H.sx⟩,?_⟩;clear H;rintro⟨k,r⟩w⟨hk,H⟩;dsimp only at hk H |-;by_cases hlt:k<row.length
  ·obtain⟨p0,c0⟩:=hs.aR (g:=bv) (λ_=>rfl) hlt;refine H.wg ?_;intro _ w H;replace H:=H.cB (alg row[k]);replace H:=H.gh (n:=3) (e:=5) (sz:=1) rfl (by simp[maxLen]);have hle:((row.take k).flatMap λc=>[c,c,c]).length<=600:=by rw[LI,my,aW,gq,bg];omega
   refine Rel.eB H (i:=0) rfl (by simp only[aq,aK];omega) ?_;intro r1 w H;simp only[bH]at H;refine wk ?_;refine⟨sB,(k+1,r1),sB,⟨by dsimp only;omega,?_⟩,by dsimp only;omega⟩;rw[bK hlt,cw];exact H
  rw[bJ aa]at H;obtain⟨V2,hV2,H,hr⟩:=Rel.aJ H;refine wk ?_;exact⟨V2,r,hV2,H.sx,rfl,hr⟩
 rw[ae h2];obtain⟨hn,h32,hm⟩:=GC hf h3 h2;obtain⟨pp1,pp2,pp3⟩:=hpo.ind h32;have hpl:=hp.len;refine wk (H.us (Q7 H.data hf ps) ?_);intro w H;have hm2:=EG f;unfold rowOf at hl;rcases hn with e|e
 ·rw[e]at hl |-;refine wk ?_;replace H:=H.br 5 1;refine aP (S:=Nat×Sl) al [0,1,2,3,10,11,16,17,20,22,23,24,25,42] (λk=>[(8,k.2.v),(43,iv k.1)]) (λk w'=>k.1<=8*row.length/1/\(∀j,j<k.1->j<wd->fieldAt 1 row j<pal.length)/\(∀j,j<k.1->wd<=j->fieldAt 1 row j=0)/\Rel W V [.row k.2 5 1 ((gi ((bZ (min k.1 wd)).map (me 1 pal row))).flatMap aI),.ay b3 (ml f ps) 160] V w') (λk _=>8*row.length/1-k.1) (0,⟨none,0,0⟩) ?_;conv=>whnf
  refine⟨sB,⟨aa,λj hj=>by omega,λj hj=>by omega,by simpa using H⟩,?_⟩;clear H;rintro⟨i,r⟩w⟨hi,hA,hB,H⟩;dsimp only at hi hA hB H |-;by_cases hlt:i<8*row.length/1
  ·obtain⟨p0,c0⟩:=sP hs (i:=i*1/8) aa;have hx:(z8 row (i*1/8)).toNat/2^(8-1-i*1%8)<256:=aie (Xd _ _) (dm _);have hv:cI .and .i64 (((z8 row (i*1/8)).toNat/2^(8-1-i*1%8):Nat):Int) (2-1)=((fieldAt 1 row i:Nat):Int):=and_1 _ hx;refine wk ?_;refine dV 17 [] [0,1,2,3,4,5,6,7,8,9,10,11,12,13,14] H ?_;intro w H;refine wk ?_;rw[show(1:Int)*2^min ((1:Nat):Int).toNat IntKind.i64.bits=2 by decide,X9 (sh:=8-1-i*1%8) aa aa];refine wk ?_;rw[hv];have hfl:=Lw 1 row i;obtain⟨k,hk⟩:∃k,k=fieldAt 1 row i:=⟨_,rfl⟩
   rw[<-hk]at hfl |-;by_cases yj:i<wd
   ·by_cases hkp:k<pal.length
    ·obtain⟨q0,g1,g2,g3⟩:=hp.sT hkp;have hle:(gi ((bZ (min i wd)).map (me 1 pal row))).length<=300:=by rw[my,aW,gq];omega
     refine wk ?_;refine Rel.jO (x:=⟨bo (some ⟨bW ps.a,bM ps.a+k*3,none⟩) 0 3 1,3-0,3-0⟩) H (i:=0) rfl (Rp hp hkp) (by simp only[aq,aK];omega) ?_;intro r1 w H;simp only[bH]at H;refine wk ?_;refine⟨sB,(i+1,r1),sB,⟨by dsimp only;omega,λj hj k6=>?_,λj hj k6=>hB j aa k6,?_⟩,by dsimp only;omega⟩
     ·by_cases e2:j=i
      ·rw[e2,<-hk];exact hkp
      exact hA j aa k6
     rw[show min (i+1) wd=min i wd+1 by omega,oH,dU,zd,show min i wd=i by omega];rw[show min i wd=i by omega]at H;have k8:me 1 pal row i=pal[k]:=by unfold me Ar;rw[<-hk,bz hkp];rfl
     rw[k8];simp only[gi,cw,bD,eL,aZ]at H |-;exact H
    rw[ae (λh=>hkp (by rw[hk];exact h.1 i yj))];refine wk ?_;exact⟨V,⟨none,0,0⟩,aS _,H.sx,rfl⟩
   by_cases hk0:k=0
   ·refine wk ?_;refine⟨sB,(i+1,r),sB,⟨by dsimp only;omega,λj hj k6=>hA j aa k6,λj hj k6=>?_,?_⟩,by dsimp only;omega⟩
    ·by_cases e2:j=i
     ·rw[e2,<-hk,hk0]
     exact hB j aa k6
    rw[show min (i+1) wd=min i wd by omega];exact H
   rw[ae (λh=>hk0 (by rw[hk];exact h.2 i hlt aa))];refine wk ?_;exact⟨V,⟨none,0,0⟩,aS _,H.sx,rfl⟩
  have hok:Fw 1 pal wd row:=⟨λj hj=>hA j aa hj,λj hj k6=>hB j aa k6⟩
  rw[ag hok,show min i wd=wd by omega]at *;obtain⟨V2,hV2,H,hr⟩:=Rel.aJ H;refine wk ?_;exact⟨V2,r,hV2,H.sx,rfl,hr⟩
 rw[e]at hl |-;refine wk ?_;replace H:=H.br 5 1;refine aP (S:=Nat×Sl) al [0,1,2,3,10,11,16,17,20,22,23,24,25,42] (λk=>[(8,k.2.v),(43,iv k.1)]) (λk w'=>k.1<=8*row.length/4/\(∀j,j<k.1->j<wd->fieldAt 4 row j<pal.length)/\(∀j,j<k.1->wd<=j->fieldAt 4 row j=0)/\Rel W V [.row k.2 5 1 ((gi ((bZ (min k.1 wd)).map (me 4 pal row))).flatMap aI),.ay b3 (ml f ps) 160] V w') (λk _=>8*row.length/4-k.1) (0,⟨none,0,0⟩) ?_;conv=>whnf
 refine⟨sB,⟨aa,λj hj=>by omega,λj hj=>by omega,by simpa using H⟩,?_⟩;clear H;rintro⟨i,r⟩w⟨hi,hA,hB,H⟩;dsimp only at hi hA hB H |-;by_cases hlt:i<8*row.length/4
 ·obtain⟨p0,c0⟩:=sP hs (i:=i*4/8) aa;have hx:(z8 row (i*4/8)).toNat/2^(8-4-i*4%8)<256:=aie (Xd _ _) (dm _);have hv:cI .and .i64 (((z8 row (i*4/8)).toNat/2^(8-4-i*4%8):Nat):Int) (16-1)=((fieldAt 4 row i:Nat):Int):=aaI _ hx;refine wk ?_;refine dV 17 [] [0,1,2,3,4,5,6,7,8,9,10,11,12,13,14] H ?_;intro w H;refine wk ?_;rw[show(1:Int)*2^min ((4:Nat):Int).toNat IntKind.i64.bits=16 by decide,X9 (sh:=8-4-i*4%8) aa aa];refine wk ?_;rw[hv];have hfl:=Lw 4 row i;obtain⟨k,hk⟩:∃k,k=fieldAt 4 row i:=⟨_,rfl⟩
  rw[<-hk]at hfl |-;by_cases yj:i<wd
  ·by_cases hkp:k<pal.length
   ·obtain⟨q0,g1,g2,g3⟩:=hp.sT hkp;have hle:(gi ((bZ (min i wd)).map (me 4 pal row))).length<=300:=by rw[my,aW,gq];omega
    refine wk ?_;refine Rel.jO (x:=⟨bo (some ⟨bW ps.a,bM ps.a+k*3,none⟩) 0 3 1,3-0,3-0⟩) H (i:=0) rfl (Rp hp hkp) (by simp only[aq,aK];omega) ?_;intro r1 w H;simp only[bH]at H;refine wk ?_;refine⟨sB,(i+1,r1),sB,⟨by dsimp only;omega,λj hj k6=>?_,λj hj k6=>hB j aa k6,?_⟩,by dsimp only;omega⟩
    ·by_cases e2:j=i
     ·rw[e2,<-hk];exact hkp
     exact hA j aa k6
    rw[show min (i+1) wd=min i wd+1 by omega,oH,dU,zd,show min i wd=i by omega];rw[show min i wd=i by omega]at H;have k8:me 4 pal row i=pal[k]:=by unfold me Ar;rw[<-hk,bz hkp];rfl
    rw[k8];simp only[gi,cw,bD,eL,aZ]at H |-;exact H
   rw[ae (λh=>hkp (by rw[hk];exact h.1 i yj))];refine wk ?_;exact⟨V,⟨none,0,0⟩,aS _,H.sx,rfl⟩
  by_cases hk0:k=0
  ·refine wk ?_;refine⟨sB,(i+1,r),sB,⟨by dsimp only;omega,λj hj k6=>hA j aa k6,λj hj k6=>?_,?_⟩,by dsimp only;omega⟩
   ·by_cases e2:j=i
    ·rw[e2,<-hk,hk0]
    exact hB j aa k6
   rw[show min (i+1) wd=min i wd by omega];exact H
  rw[ae (λh=>hk0 (by rw[hk];exact h.2 i hlt aa))];refine wk ?_;exact⟨V,⟨none,0,0⟩,aS _,H.sx,rfl⟩
 have hok:Fw 4 pal wd row:=⟨λj hj=>hA j aa hj,λj hj k6=>hB j aa k6⟩
 rw[ag hok,show min i wd=wd by omega]at *;obtain⟨V2,hV2,H,hr⟩:=Rel.aJ H;refine wk ?_;exact⟨V2,r,hV2,H.sx,rfl,hr⟩
def aT.wa:aT->Bool
 | .obj _ _=>false
 | _=>true
section
variable{w0 V0 V w:ad}{own:cx}
theorem Rel.tw{B:Nat}(H:Rel w0 V0 own V w)(hc:own.all aT.wa=true)(hB:w0.heap.size<=B){w':ad}(ht:Tw B w w'):Rel w0 V0 own V w':=by
 refine⟨⟨ht.os.trans H.base.os,ht.tape.trans H.base.tape,ht.output.trans H.base.output,qu H.base.size ht.size,λk hk=>(ht.low k aa).trans (H.base.block k hk)⟩,H.sub,H.old,λr hr=>?_,H.new,H.hid,H.apart,⟨λb c t f hb=>ht.cS _ _ _ _ (H.data.cS b c t f hb)⟩⟩;have h1:=H.laid r hr;have h2:=bc.1 hc r hr;cases r with
 | ay b l t=>exact dN.tw h1 ht
 | row s e sz xs=>exact Row.YZ h1 ht
 | obj b o=>cases h2
def Br:Obj->Bool
 | .cells _ _ _=>false
 | _=>true
def Bm(w:ad)(B j:Nat):Option aT:=match w.heap[j]? with
 | some o=>if B<=j/\Br o=true then some (.obj j o)else none
 | none=>none
theorem qm{B j:Nat}{r:aT}(h:Bm w B j=some r):∃o,w.heap[j]?=some o/\B<=j/\Br o=true/\r=.obj j o:=by
 unfold Bm at h;split at h
 ·rename_i o ho;split at h
  ·rename_i hc;cases h;exact⟨o,ho,hc.1,hc.2,rfl⟩
  cases h
 cases h
theorem aT.cell_of{r:aT}(hc:r.wa=true)(h:r.laid w){b:Nat}(hb:r.at_=some b):∃c t f,w.heap[b]?=some (.cells c t f):=by
 cases r with
 | ay b' l t=>cases hb;exact⟨_,_,_,h⟩
 | row s e sz xs =>
  simp only[aT.at_,Option.map_eq_some_iff]at hb;obtain⟨p,hp,rfl⟩:=hb;rcases h.at_ with⟨h1,_⟩|⟨b',cur,h1,h2,_⟩
  ·rw[hp]at h1;cases h1
  rw[hp]at h1;cases h1;obtain⟨fz,h2,_⟩:=h2;exact⟨_,_,_,h2⟩
 | obj b' o=>cases hc
theorem Rel.marks(H:Rel w0 V0 own V w)(hc:own.all aT.wa=true){B:Nat}(hB:w0.heap.size<=B):∃X:cx,Rel w0 V0 (own++X) V w/\∀w',(∀r∈X,r.laid w')->nT B w w':=by
 refine⟨(bZ w.heap.size).filterMap (Bm w B),⟨H.base,H.sub,H.old,?_,?_,?_,?_,H.data⟩,?_⟩
 ·intro r hr;rcases cc.1 hr with hr|hr
  ·exact H.laid r hr
  obtain⟨j,_,hj⟩:=tE.1 hr;obtain⟨o,ho,_,_,rfl⟩:=qm hj;exact ho
 ·intro r hr b hb;rcases cc.1 hr with hr|hr
  ·exact H.new r hr b hb
  obtain⟨j,_,hj⟩:=tE.1 hr;obtain⟨o,ho,Dl,_,rfl⟩:=qm hj;cases hb;omega
 ·intro r hr b hb;rcases cc.1 hr with hr|hr
  ·exact H.hid r hr b hb
  obtain⟨j,_,hj⟩:=tE.1 hr;obtain⟨o,ho,Dl,hn,rfl⟩:=qm hj;cases hb;intro c t f hv;have:=H.data.cS _ _ _ _ hv;rw[ho]at this;cases this;cases hn
 ·refine BN.2 ⟨H.apart,?_,λr hr s hs b hb jD=>?_⟩
  ·rw[List.pairwise_filterMap];refine List.Pairwise.imp ?_ List.nodup_range;intro i j yi r hr s hs b hb jD;obtain⟨o,ho,_,_,rfl⟩:=qm hr;obtain⟨o',mK,_,_,rfl⟩:=qm hs;cases hb;cases jD;exact yi rfl
  obtain⟨c,t,f,hcell⟩:=aT.cell_of (bc.1 hc r hr) (H.laid r hr) hb;obtain⟨j,_,hj⟩:=tE.1 hs;obtain⟨o,ho,Dl,hn,rfl⟩:=qm hj;cases jD;rw[ho]at hcell;cases hcell;cases hn
 intro w' hX j o hj ho hn;have hlt:=(ku.1 ho).1;have hno:Br o=true:=by
  cases o with
  | cells c t f=>exact absurd rfl (hn c t f)
  | _=>rfl
 exact hX (.obj j o) (tE.2 ⟨j,oG.2 hlt,by simp[Bm,ho,hj,hno]⟩)
end
theorem Xt{C:Cx}(hT:cg C.P C.T)(hro:C.r=none){g:Operand}{ps:Array Tmp}{assign body:Code}{env:Env}{ds:List Deferred}{w:ad}{Q:iJ}{gf:Nat}{lb:aC}{w0 V0 V:ad}
  (hg:dj env g λv=>v=.func (.func gf) #[] lb.toArray) {xs:List aC} (hit:Gj C.P gf lb xs (λW=>Sub V W)) (hps:∀x∈xs,x.length=ps.size) (hpn:(ps.toList.all λp=>decide (p<C.n))=true)
  {σ:Type} (own:Nat->σ->cx) (hcell:∀k s,(own k s).all aT.wa=true) (F:Nat->σ->ad->Prop) {τ:Type} (IP:Code->τ->cx) (TU:∀c t,(IP c t).all aT.wa=true) (Fx:Code->τ->ad->Prop)
  (s0:σ) {V1:ad} (hV1:Sub V V1) (H:Rel w0 V0 (own 0 s0) V1 w) (hF:F 0 s0 V1)
  (yy:∀L k x W s V1,xs[k]?=some x->Sub V V1->F k s V1->Rel w0 V0 (own k s) V1 W->jh { C with r:=some L } assign (BI ps.toList x env) [] W λe Az ds1 W1=>(match e with
   | .normal=>ds1=[]/\nT w.heap.size W W1/\∀W2,Tw w.heap.size W1 W2->jh { C with r:=some L } body Az [] W2 (Pd w.heap.size W2 (λW=>∃V1 s,Sub V V1/\F (k+1) s V1/\Rel w0 V0 (own (k+1) s) V1 W) (λc W=>∃V1 t,Sub V V1/\Fx c t V1/\Rel w0 V0 (IP c t) V1 W))
   | _=>False))
  (hdone:∀D W s V1,Sub V V1->F xs.length s V1->Rel w0 V0 (own xs.length s++[.obj D (.deferred (some []))]) V1 W->Q .normal env ({ target:=.collected D,args:=#[] }::ds) W)
  (hstop:∀D c W t V1,Sub V V1->Fx c t V1->Rel w0 V0 (IP c t++[.obj D (.deferred (some []))]) V1 W->jh C c env ({ target:=.collected D,args:=#[] }::ds) W Q) :
  aM C (.rangeFunc g ps assign body) env ds w Q:=by
 have hB:w0.heap.size<=w.heap.size:=H.base.size;have ZL:∀ {own:cx} {V1 W:ad} {D:Nat},own.all aT.wa=true->w.heap.size<=D->W.heap[D]?=some (.deferred (some []))->Rel w0 V0 own V1 W->Rel w0 V0 (own++[.obj D (.deferred (some []))]) V1 W:=by
  intro own V1 W D hc hD hW H;refine⟨H.base,H.sub,H.old,?_,?_,?_,?_,H.data⟩
  ·intro r hr;rcases cc.1 hr with hr|hr
   ·exact H.laid r hr
   rw[cz.1 hr];exact hW
  ·intro r hr b hb;rcases cc.1 hr with hr|hr
   ·exact H.new r hr b hb
   rw[cz.1 hr]at hb;cases hb;omega
  ·intro r hr b hb;rcases cc.1 hr with hr|hr
   ·exact H.hid r hr b hb
   rw[cz.1 hr]at hb;cases hb;intro c t f hv;have:=H.data.cS _ _ _ _ hv;rw[hW]at this;cases this
  refine BN.2 ⟨H.apart,List.pairwise_singleton _ _,λr hr s hs b hb jD=>?_⟩;obtain⟨c,t,f,hcell⟩:=aT.cell_of (bc.1 hc r hr) (H.laid r hr) hb;rw[cz.1 hs]at jD;cases jD;rw[hW]at hcell;cases hcell
 refine Xu hT hro hg hit hps hpn (λk W=>∃V1 s,Sub V V1/\F k s V1/\Rel w0 V0 (own k s) V1 W) (λc W=>∃V1 t,Sub V V1/\Fx c t V1/\Rel w0 V0 (IP c t) V1 W) ?_ ?_ ?_ ⟨V1,s0,hV1,hF,H⟩ ?_ ?_ ?_
 ·rintro k W W'⟨V1,s,h1,h2,h3⟩ht;exact⟨V1,s,h1,h2,h3.tw (hcell k s) hB ht⟩
 ·rintro c W W'⟨V1,t,h1,h2,h3⟩ht;exact⟨V1,t,h1,h2,h3.tw (TU c t) hB ht⟩
 ·rintro k W⟨V1,s,h1,h2,h3⟩;exact h1.trans h3.data
 ·rintro L k x W hx⟨V1,s,h1,h2,h3⟩;exact yy L k x W s V1 hx h1 h2 h3
 ·rintro D W hD hW⟨V1,s,h1,h2,h3⟩;exact hdone D W s V1 h1 h2 (ZL (hcell _ s) hD hW h3)
 rintro D c W hD hW⟨V1,t,h1,h2,h3⟩;exact hstop D c W t V1 h1 h2 (ZL (TU c t) hD hW h3)
theorem Rel.Kj{d:Obj}(H:Rel w0 V0 own V w){own':cx}(hs:own'.Sublist own)(hc:own'.all aT.wa=true)(hD:aT.obj D d∈own){w':ad}(ht:Tw D w w'):Rel w0 V0 own' V w' :=
 (H.sl hs).tw hc (H.new _ hD D rfl) ht
theorem Rel.mark{d:Obj}(H:Rel w0 V0 own V w)(hD:aT.obj D d∈own):w.heap[D]?=some d:=H.laid (.obj D d) hD
theorem ajX{ts:Array TypeId}{t:TypeId}{k k':IntKind}{x y:Int}{K:aj->ad->Prop}(m:Int)(hm:m<=x/\m<=y/\(m=x\/m=y))(h:K (.int k m) w):bE P (Builtin.min_ ts t #[.int k x,.int k' y]) w K :=
 .of (run_min_int2 w ts t k k' x y) (by rw[show(if y<x then y else x)=m by split<;>omega];exact h)
abbrev Ge(m n len:Nat):Prop:=∀i,i<m↔i*n<len
theorem GO(hn:1<=n):Ge h n (h*n):=λi=>by
 constructor
 ·intro hi;have:(i+1)*n<=h*n:=Nat.mul_le_mul_right n hi;rw[wE]at this;omega
 intro hi;exact Nat.lt_of_mul_lt_mul_right hi
def j5(s:Sl)(n i:Nat):Sl:=⟨bo s.a (i*n) (i*n+min n (s.len-i*n)) 1,min n (s.len-i*n),min n (s.len-i*n)⟩
def vy{α:Type}(l:List α)(n i:Nat):List α:=(l.drop (i*n)).take n
theorem Rj(hs:aF V s l){n i:Nat}(hn:1<=n)(hi:i*n<l.length):aF V (j5 s n i) (vy l n i):=by
 have hl:=hs.len;have h0:=hs.aR (g:=bv) (λ_=>rfl) hi;refine⟨by simp only[j5,vy,bg,aU];omega,aQ _,λ_=>?_,λj v hj=>?_⟩
 ·exact(zx h0.1:Plain (bo s.a _ _ _))
 have fe:j<n/\i*n+j<l.length/\v=bv (l[i*n+j]?.getD 0):=by rw[iu]at hj;obtain⟨q1,q2⟩:=dH.1 hj;simp only[vy,aW,bg,aU]at q1;refine⟨aa,aa,?_⟩;rw[<-q2];simp only[vy,List.getElem_map,List.getElem_take,List.getElem_drop];rw[bz aa];rfl
 obtain⟨g1,g2,g3⟩:=fe;obtain⟨_,c⟩:=hs.aR (g:=bv) (λ_=>rfl) g2;simp only[j5];rw[zv,zw h0.1 aa,g3,bz g2,Nat.add_assoc,Nat.mul_one];exact c
def chunks(s:Sl)(n m:Nat):List aC:=(bZ m).map λi=>[(j5 s n i).v]
theorem xy(s:Sl)(n m:Nat):(chunks s n m).length=m:=by simp[chunks]
theorem GN(hk:k<m):(chunks s n m)[k]?=some [(j5 s n k).v]:=by simp[chunks,ib,sd hk]
theorem KU(hV:Sub V W)(s:Sl){n:Nat}(hn:1<=n):aB 217 [s.v,iv (n:Int)] W λv w'=>∃b c,v=.func (.func 277) #[] #[.pointer (some ⟨b,0,none⟩),.pointer (some ⟨c,0,none⟩)]/\∃V',Sub V V'/\Rel W V [] V' w'/\dN V' b [s.v] 22/\dN V' c [iv n] 3:=by have H:=aG hV;refine eV Tryz.func217 9 [0,1,2,3,4,6] ?_;refine H.wn ?_;intro w b H;refine H.wn ?_;intro w c H;refine wk ?_;obtain⟨V1,h1,H,k1⟩:=H.cU;obtain⟨V2,h2,H,k2⟩:=H.cU;have k1':=k1.cells.tL h2;refine⟨b,c,rfl,V2,h1.trans h2,H,k2,?_⟩;exact h2.cS _ _ _ _ k1
theorem KT{b c:Nat}(hb:dN V b [s.v] 22)(hc:dN V c [iv n] 3)(hs:aF V s l)(hl:l.length<=1000000000)(hn:1<=n)(hnl:n<=1000000000)(hm:Ge m n l.length) :
  Gj Tryz.prog 277 [.pointer (some ⟨b,0,none⟩),.pointer (some ⟨c,0,none⟩)] (chunks s n m) (λW=>Sub V W):=by
 refine⟨xG Tryz.func277 rfl av,?_⟩;intro L W J Jx hS hJ hJx yy h0;have hlen:=hs.len;have og:=hs.cap;have mG:=hb.cS (i:=0) rfl;have np:=hc.cS (i:=0) rfl;refine eV Tryz.func277 31 [0,1,2,4,5,9,30] ?_;refine wk ?_;refine aP al [0,1,2] (λk:Nat=>[(4,.int .i64 ((k*n:Nat):Int))]) (λk w'=>k<=m/\J k w') (λk _=>m-k) 0 ?_;conv=>whnf
 refine⟨⟨by simp[get?],trivial⟩,⟨aa,h0⟩,?_⟩;rintro k w⟨hk,hj⟩;have H:=aG (hS _ _ hj);by_cases hlt:k<m
 ·have gk:=(hm k).1 hlt;refine wk ?_;refine dV 3 [] [0,1,2,3,4,5,6] H ?_;intro w H;refine wk ?_;refine ajX ((min n (s.len-k*n):Nat):Int) aa ?_;refine wk ?_;have hy:=yy k [(j5 s n k).v] w (GN hlt) (hJ _ _ _ hj H.base);have ev:(j5 s n k).v=Value.slice (bo s.a (((k*n:Nat):Int)).toNat ((((k*n:Nat):Int))+((min n (s.len-k*n):Nat):Int)).toNat 1) (((((k*n:Nat):Int))+((min n (s.len-k*n):Nat):Int)).toNat-(((k*n:Nat):Int)).toNat) (((((k*n:Nat):Int))+((min n (s.len-k*n):Nat):Int)).toNat-(((k*n:Nat):Int)).toNat):=by have e1:(((k*n:Nat):Int)+((min n (s.len-k*n):Nat):Int)).toNat=k*n+min n (s.len-k*n):=aa;rw[e1,jr,show k*n+min n (s.len-k*n)-k*n=min n (s.len-k*n)by omega];rfl
  rw[ev]at hy;refine hy.mono ?_;rintro r w3⟨ht,hf⟩;clear H;conv=>whnf
  refine Au (λh6=>?_) (λh6=>?_)
  ·conv=>whnf
   exact .inr (hf (by simpa using h6))
  have fe:=ht (by simpa using h6);have H:=aG (hS _ _ fe);have e3:((k*n:Nat):Int)+(n:Int)=(((k+1)*n:Nat):Int):=by rw[wE];omega
  have uB:k*n<=1000000000:=aa;refine wk ?_;rw[e3];exact⟨sB,k+1,sB,⟨aa,fe⟩,aa⟩
 have gk:¬k*n<l.length:=λh=>hlt ((hm k).2 h);refine wk ?_;rw[show k=m by omega,<-xy s n m]at hj;exact .inl hj
theorem aaR(hV:Sub V W){b c:Nat}{s:Sl}{l:ab}{n m:Nat}(hb:dN V b [s.v] 22)(hc:dN V c [iv n] 3)(hs:aF V s l)(hl:l.length<=1000000000)(hn:1<=n)(hnl:n<=1000000000)(hm:Ge m n l.length)(hm2:m<=1000000) :
  aB 309 [.slice none 0 0,.func (.func 277) #[] #[.pointer (some ⟨b,0,none⟩),.pointer (some ⟨c,0,none⟩)]] W λv w'=>∃r:Sl,v=r.v/\Rel W V [.row r 22 1 (((bZ m).map (j5 s n)).flatMap du)] V w':=by
 have H:=aG hV;refine eV Tryz.func309 13 [0,1,2,4,5,6,7] ?_;refine H.wn ?_;intro w b2 H;refine wk ?_;replace H:=H.br 22 1;have hB:=H.base.size
 refine Xt al rfl (by(conv=>whnf)) (KT hb hc hs hl hn hnl hm) ?_ rfl (σ:=Sl) (τ:=Unit)
  (λk r=>[.row r 22 1 (((bZ k).map (j5 s n)).flatMap du),.ay b2 [r.v] 96]) (λ_ _=>rfl)
  (λk _ _=>k<=m) (λ_ _=>[]) (λ_ _=>rfl) (λ_ _ _=>False) ⟨none,0,0⟩ (aS _) (by simpa using H) aa ?_ ?_ ?_
 ·intro y hy;obtain⟨i,_,rfl⟩:=cJ.1 hy;rfl
 ·clear H;rintro L k x w r V3 hx aw hF H;have hk:k<m:=by have:=(dH.1 hx).1;rwa [xy]at this
  rw[GN hk]at hx;cases hx;conv=>whnf
  refine⟨rfl,nT.refl _ _,λw' kh=>?_⟩;obtain⟨X,H,hX⟩:=(H.tw rfl hB kh).marks rfl hB;simp only[bb,aL]at H;clear kh;generalize w'=w at H hX |-;refine H.wg ?_;intro _ w H;refine Rel.bF (f:=du) (l:=(bZ k).map (j5 s n)) (x:=j5 s n k) rfl (λ_=>rfl) (by simp[Value.oneCell']) H (by rw[aW,gq];show(k+1)*24<=_;omega) (by rw[aW,gq];omega) ?_;intro r1 w H;refine H.wg ?_;intro w H;rw[show(bZ k).map (j5 s n)++[j5 s n k]=(bZ (k+1)).map (j5 s n)by rw[oH,dU];rfl]at H;exact⟨hX _ (λr hr=>H.laid r (by simp[hr])),V3,r1,aw,hk,H.sx⟩
 ·clear H;rintro D w r V3 aw hF H;simp only[bb,aL]at H;rw[xy]at H;refine wk ?_;refine⟨H.mark ah,λw' ht=>?_⟩;replace H:=H.Kj (own':=[.row r 22 1 (((bZ m).map (j5 s n)).flatMap du)]) (by repeat (first|exact zb _|refine List.Sublist.cons_cons _ ?_|refine List.Sublist.cons _ ?_|exact I9 _)) rfl (by simp;rfl) ht;generalize w'=w at H;refine wk ?_;exact⟨r,rfl,H.less (aS _) aw⟩
 rintro D c w t V3 aw hF;exact hF.elim
theorem abH(hV:Sub V W){b c:Nat}{s:Sl}{l:ab}{n m:Nat}(hb:dN V b [s.v] 22)(hc:dN V c [iv n] 3)(hs:aF V s l)(hl:l.length<=1000000000)(hn:1<=n)(hnl:n<=1000000000)(hm:Ge m n l.length)(hm2:m<=1000000) :
  aB 275 [.func (.func 277) #[] #[.pointer (some ⟨b,0,none⟩),.pointer (some ⟨c,0,none⟩)]] W λv w'=>∃r:Sl,v=r.v/\Rel W V [.row r 22 1 (((bZ m).map (j5 s n)).flatMap du)] V w':=by
 have H:=aG hV;refine eV Tryz.func275 5 [0,2] ?_;refine wk ((aaR H.data hb hc hs hl hn hnl hm hm2).use ?_);rintro v w⟨r,rfl,K⟩;replace H:=Rel.call H K;simp only[aZ]at H;refine wk ?_;exact⟨r,rfl,H⟩
structure tX{α:Type}(l:List α)(k:Nat)(L:List α):Prop where
 len:L.length=l.length
 out:∀i,i<l.length->(i<k\/l.length<i+1+k)->L[i]?=l[l.length-1-i]?
 mid:∀i,k<=i->i+1+k<=l.length->L[i]?=l[i]?
theorem tX.start(l:List α):tX l 0 l:=⟨rfl,λi h1 h2=>by omega,λi _ _=>rfl⟩
theorem tX.done{l L:List α}(R:tX l k L)(h:l.length<=2*k+1)(hk:2*k<=l.length+1):L=l.reverse:=by
 refine zc λi=>?_;by_cases hi:i<l.length
 ·rw[Fa hi];by_cases ho:i<k\/l.length<i+1+k
  ·exact R.out i hi ho
  rw[R.mid i aa aa,show l.length-1-i=i by omega]
 rw[lO (by rw[R.len];omega),lO (by simp;omega)]
theorem tX.step{l L:List α}(R:tX l k L)(h:2*k+1<l.length){x y:α}(hx:L[k]?=some x)(hy:L[l.length-1-k]?=some y):tX l (k+1) ((L.set k y).set (l.length-1-k) x):=by
 have hL:=R.len;have e1:l[k]?=some x:=by rw[<-R.mid k (aQ _) aa];exact hx
 have e2:l[l.length-1-k]?=some y:=by rw[<-R.mid _ aa aa];exact hy
 refine⟨by simp[hL],λi hi ho=>?_,λi h1 h2=>?_⟩
 ·rw[aij,List.length_set,aij];by_cases ha:l.length-1-k=i
  ·rw[ag ha,ag aa,show l.length-1-i=k by omega,e1]
  rw[ae ha];by_cases hb:k=i
  ·rw[ag hb,ag aa,<-hb,e2]
  rw[ae hb];exact R.out i hi aa
 rw[WS aa,WS aa];exact R.mid i aa aa
theorem Ye(l:List Sl)(j:Nat)(x:Sl):(l.flatMap du).set j x.v=(l.set j x).flatMap du:=by
 have e:∀l:List Sl,l.flatMap du=l.map Sl.v:=λl=>by induction l with|nil=>rfl|cons _ _ ih=>simp[bD,ih]
 rw[e,e,List.map_set]
theorem ajh{l:List Sl}(H:Rel w0 V0 (.row s 22 1 (l.flatMap du)::own) V W)(hl:l.length<=1000000) :
  aB 276 [s.v] W λ_ w'=>Rel w0 V0 (.row s 22 1 (l.reverse.flatMap du)::own) V w':=by
 have hlen:s.len=l.length:=H.dW (i:=0) rfl (λ_=>rfl) ai;refine eV Tryz.func276 28 [0,2,3,9] ?_;refine wk ?_;refine aP (S:=Nat×List Sl) al [0] (λq=>[(2,iv q.1),(3,iv ((l.length:Int)-1-q.1))]) (λq w'=>tX l q.1 q.2/\2*q.1<=l.length+1/\Rel w0 V0 (.row s 22 1 (q.2.flatMap du)::own) V w') (λq _=>l.length+1-2*q.1) (0,l) ?_;conv=>whnf
 refine⟨⟨rfl,by rw[hlen];simp[get?],trivial⟩,⟨tX.start l,aa,H⟩,?_⟩;clear H;rintro⟨k,L⟩w⟨R,hk,H⟩;dsimp only at R hk H |-;have hL:=R.len;by_cases hlt:2*k+1<l.length
 ·refine wk ?_;refine dV 3 [] [0,1,2,3,4,5,6,7,8,9,10,11,12,13,14,15] H ?_;intro w H;have S5:=H.cV (i:=0) rfl (λ_=>rfl) ai;obtain⟨p1,c1⟩:=S5.aR (g:=Sl.v) (λ_=>rfl) (show k<L.length by omega);obtain⟨p2,c2⟩:=S5.aR (g:=Sl.v) (λ_=>rfl) (show l.length-1-k<L.length by omega);have c2':w.cell? ⟨bW s.a,bM s.a+((l.length:Int)-1-k).toNat,none⟩=some (L[l.length-1-k]'aa).v:=by rw[show((l.length:Int)-1-k).toNat=l.length-1-k by omega];exact c2
  refine wk ?_;refine Rel.zu (i:=0) H rfl k aa rfl rfl ?_;intro w H;simp only[bH]at H;rw[Ye]at H;refine wk ?_;refine Rel.zu (i:=0) H rfl (l.length-1-k) aa rfl (by rw[show((l.length:Int)-1-k).toNat=l.length-1-k by omega];rfl) ?_
  intro w H;simp only[bH]at H;rw[Ye]at H;refine wk ?_;refine⟨sB,(k+1,_),?_,⟨R.step hlt (bz aa) (bz aa),by dsimp only;omega,H⟩,by dsimp only;omega⟩;exact⟨by simp[get?],by simp only[get?];congr 2;omega,trivial⟩
 refine wk ?_;rw[<-R.done aa hk];exact H
theorem Pw.rev{R:ad->β->α->Prop}{xs:List β}{ys:List α}(h:Pw R V xs ys):Pw R V xs.reverse ys.reverse:=by
 have hl:=h.len;refine⟨by simp[hl],λk x y hx hy=>?_⟩;have hk:k<xs.length:=by simpa using(dH.1 hx).1
 rw[Fa hk]at hx;rw[Fa aa,<-hl]at hy;exact h.all _ x y hx hy
theorem abB(hs:aF V s l)(hn:1<=n)(hl:l.length=h*n):Pw lW V ((bZ h).map (j5 s n)) (fi n h l):=by
 refine⟨by simp[fi],λk x y hx hy=>?_⟩;have hk:k<h:=by simpa using(dH.1 hx).1
 rw[ib,sd hk]at hx;rw[JF hk]at hy;cases hx;cases hy;exact Rj hs hn (by rw[hl];exact(GO hn k).1 hk)
theorem aji(hV:Sub V W){s:Sl}{l:ab}(hs:aF V s l){n h:Nat}(hn:1<=n)(hn2:n<=100000)(hh:h<=100000)(hl:l.length=h*n)(hl2:l.length<=1000000) :
  aB 216 [s.v,iv (n:Int)] W λv w'=>∃r:Sl,v=r.v/\Rel W V [.row r 5 1 ((fi n h l).reverse.flatten.flatMap aI)] V w':=by
 have H:=aG hV;refine eV Tryz.func216 14 [0,1,4,5] ?_;refine wk ((KU H.data s hn).use ?_);rintro v w⟨b,c,rfl,V2,hV2,K,hb,hc⟩;replace H:=H.bd K;refine wk ?_;refine(abH (m:=h) H.data hb hc (hs.up hV2) aa hn aa (by rw[hl];exact GO hn) aa).use ?_;rintro v w⟨r,rfl,K⟩;replace H:=Rel.call H K;simp only[aZ]at H;refine wk ?_;refine(ajh H (by simp;omega)).use ?_;clear K H;rintro v w H;obtain⟨V3,aw,H,hr⟩:=Rel.aJ H;have hfl:(fi n h l).reverse.flatten.length<=1000000:=by rw[adb,Pg hl];exact hl2
 refine wk ?_;refine(C0 H.data hr ((abB ((hs.up hV2).up aw) hn hl).rev) (by simp[fi];omega) aa).use ?_;rintro v w⟨r2,rfl,K⟩;replace H:=Rel.call H K;simp only[aZ]at H;refine wk ?_;exact⟨r2,rfl,H.less (aS _) (hV2.trans aw)⟩
theorem aaE{g:α->Option β}{l:List α}{R:List β}{y:β}(hk:k<l.length)(h:allM g (l.take k)=some R)(hy:g l[k]=some y):allM g (l.take (k+1))=some (R++[y]):=by rw[bK hk];exact CJ h hy
theorem Pf{w:Nat}(hf:f<64)(hp:mW f pal){d:ab}(hd:d.length=h*rowOf f w){k:Nat}{R:bf}(hR:allM (lR f pal w) ((fi (rowOf f w) h d).take k)=some R):R.length<=h/\∀r∈R,r.length=3*w:=by obtain⟨h1,h2⟩:=vq hR;rw[bg,qE]at h1;refine⟨aa,λr hr=>?_⟩;obtain⟨i,hi,rfl⟩:=List.mem_iff_getElem.1 hr;have hy:((fi (rowOf f w) h d).take k)[i]?=some (((fi (rowOf f w) h d).take k)[i]'(by rw[bg,qE];omega)):=bz _;exact(Qv hf hp (JG hd (List.mem_of_mem_take (jX hy))) (h2 i _ _ hy (bz hi))).1
structure aap(W V:ad)(o:fV)(v:aj)(w':ad):Prop where
 ex:∃(V':ad) (r:Sl),Sub V V'/\Rel W V [] V' w'/\(match o with
  | none=>v=.tuple #[.slice none 0 0,.bool false]
  | some x=>v=.tuple #[r.v,.bool true]/\aF V' r x)
theorem aiS(hV:Sub V W){f:Nat}(hf:f<64){ps:Sl}{pal:List cd}(hp:pL V ps pal)(hpo:mW f pal){s:Sl}{B:ab}(hs:aF V s B)(hl:B.length<=70000){wd ht:Nat}(hw0:1<=wd)(hw:wd<=64)(hh:ht<=64) :
  aB 211 [.agg (ml f ps).toArray,s.v,iv (wd:Int),iv (ht:Int)] W (aap W V (oE f pal wd ht B)):=by
 have H:=aG hV;have hlen:=hs.len;have TQ:=Ak f;have hro:rowOf f wd<=200:=by unfold rowOf;have:wd*bitsOf f<=64*24:=mg hw TQ.2;omega
 have hr1:1<=rowOf f wd:=by unfold rowOf;have:1*1<=wd*bitsOf f:=mg hw0 TQ.1;omega
 have hmul:((rowOf f wd:Nat):Int)*(ht:Int)=((rowOf f wd*ht:Nat):Int):=(Int.natCast_mul _ _).symm;have MR:rowOf f wd*ht<=200*64:=mg hro hh;refine nX al Tryz.func211 rfl av 60 rfl ah [0,1,2,3,4,6,8,9,10,11,12,13,14,15,26,36,39,40,49,54] ?_;refine aM.cA al ?_;refine H.wn ?_;intro w b4 H;refine H.wn ?_;intro w b6 H;refine H.wn ?_;intro w b8 H;refine H.wn ?_;intro w b9 H;refine wk ?_;refine aM.cA al ?_;refine wk (H.us (ajm H.data hf ps hw) ?_);intro w H;refine wk ?_;refine aM.cA al ?_;refine wk ?_
 refine aM.lq al (λq:Sl×Bool=>[(1,q.1.v),(3,iv ht),(4,.pointer (some ⟨b4,0,none⟩)),(6,.pointer (some ⟨b6,0,none⟩)),(8,.pointer (some ⟨b8,0,none⟩)),(9,.pointer (some ⟨b9,0,none⟩)),(10,iv (rowOf f wd:Nat)),(11,.bool q.2)])
  (λq w'=>∃V2,Sub V V2/\Rel W V [.ay b9 [.bool false] 4,.ay b8 [.slice none 0 0] 22,.ay b6 [iv wd] 3,.ay b4 (ml f ps) 160] V2 w'/\(match mS f (rowOf f wd*ht) B with
   | none=>q.2=false
   | some d=>q.2=true/\aF V2 q.1 d)) ?_ ?_
 ·refine wk ?_;refine H.us (adM H.data aa ps) ?_;intro w H;unfold mS;by_cases kg:f/2%2=1
  ·rw[bw kg,ag kg];refine wk ?_;rw[hmul];refine(alL H.data hs aa aa).use ?_;rintro v w⟨V2,r,hV2,K,hk⟩;replace H:=H.bd K;cases hu:mo B (rowOf f wd*ht)with
   | none =>rw[hu]at hk;obtain rfl:=hk;refine wk ?_;exact⟨(r,false),sB,V2,hV2,H.sx,rfl⟩
   | some d =>rw[hu]at hk;obtain⟨rfl,hr⟩:=hk;refine wk ?_;exact⟨(r,true),sB,V2,hV2,H.sx,rfl,hr⟩
  rw[bA kg,ae kg];by_cases hsz:B.length=rowOf f wd*ht
  ·rw[ag hsz];refine wk ?_;exact⟨(s,true),⟨rfl,rfl,rfl,rfl,rfl,rfl,rfl,ax (λb=>some (ic b)) (bw aa),trivial⟩,V,aS _,H.sx,rfl,hs⟩
  rw[ae hsz];refine wk ?_;exact⟨(s,false),⟨rfl,rfl,rfl,rfl,rfl,rfl,rfl,ax (λb=>some (ic b)) (bA aa),trivial⟩,V,aS _,H.sx,rfl⟩
 clear H;rintro⟨q0,k⟩w⟨V2,hV2,H,hk⟩;dsimp only at H hk;unfold oE;refine aM.go al ?_;cases hd:mS f (rowOf f wd*ht) B with
 | none =>rw[hd]at hk;obtain rfl:=hk;refine H.wg ?_;intro _ w H;exact⟨V2,⟨none,0,0⟩,hV2,H.sx,rfl⟩
 | some d =>
  rw[hd]at hk;obtain⟨rfl,hq0⟩:=hk;dsimp only;refine H.wn ?_;intro w ud H;have hdl:d.length=ht*rowOf f wd:=by rw[XL hd,Nat.mul_comm]
  have TY:d.length<=20000:=by rw[hdl];have:=mg hh hro;omega
  refine wk ((KU H.data q0 (n:=rowOf f wd) hr1).use ?_);rintro v w⟨b,c,rfl,V3,aw,K,hb,hc⟩;replace H:=H.bd K;refine wk ?_;have hB:=H.base.size;replace H:=H.br 5 1;have fR:=hV2.trans aw
  refine Xt al rfl (by(conv=>whnf)) (KT (m:=ht) hb hc (hq0.up aw) aa hr1 aa (by rw[hdl];exact GO hr1)) ?_ rfl (σ:=Sl×bf) (τ:=Unit)
   (λk q=>[.row q.1 5 1 (q.2.flatten.flatMap aI),.ay ud [q.1.v] 22,.ay b9 [.bool false] 4,.ay b8 [.slice none 0 0] 22,.ay b6 [iv wd] 3,.ay b4 (ml f ps) 160]) (λ_ _=>rfl)
   (λk q _=>allM (lR f pal wd) ((fi (rowOf f wd) ht d).take k)=some q.2)
   (λ_ _=>[.ay b9 [.bool false] 4,.ay b8 [.slice none 0 0] 22]) (λ_ _=>rfl) (λc _ _=>c=.ret/\sF f pal wd ht d=none) (⟨none,0,0⟩,[]) (aS _) H.sx rfl ?_ ?_ ?_
  ·intro y hy;obtain⟨i,_,rfl⟩:=cJ.1 hy;rfl
  ·clear H;rintro L k x w⟨r,R⟩V4 hx ar hF H;have hk:k<ht:=by have:=(dH.1 hx).1;rwa [xy]at this
   rw[GN hk]at hx;cases hx;conv=>whnf
   refine⟨rfl,nT.refl _ _,λw' kh=>?_⟩;obtain⟨X,H,hX⟩:=(H.tw rfl hB kh).marks rfl hB;simp only[bb,aL]at H;dsimp only at hF H;clear kh;generalize w'=w at H hX |-;have uB:k*rowOf f wd<d.length:=by rw[hdl];exact(GO hr1 k).1 hk
   have hch:=Rj ((hq0.up aw).up ar) hr1 uB;have hrow:(vy d (rowOf f wd) k).length=rowOf f wd:=by have hm:vy d (rowOf f wd) k∈fi (rowOf f wd) ht d:=cJ.2 ⟨k,oG.2 hk,rfl⟩;exact JG hdl hm
   obtain⟨qc,Mf⟩:=Pf hf hpo hdl hF;have hfl:=(AK Mf).1;have aeh:R.flatten.length<=20000:=by rw[hfl];have:=mg (qu qc hh) (show 3*wd<=192 by omega);omega
   refine wk ((aiR H.data hf ((hp.up fR).up ar) hpo hch hw hrow).use ?_);rintro v w2⟨V5,r5,aN,K,hres⟩;replace H:=H.bd K;have gk:k<(fi (rowOf f wd) ht d).length:=by rw[qE];exact hk
   have fL:(fi (rowOf f wd) ht d)[k]=vy d (rowOf f wd) k:=by have:=JF (s:=rowOf f wd) (l:=d) hk;rw[bz gk]at this;exact dT this
   cases k8:lR f pal wd (vy d (rowOf f wd) k)with
   | none =>
    rw[k8]at hres;obtain rfl:=hres;have hno:sF f pal wd ht d=none:=by unfold sF;rw[Ai (bS gk) (by rw[fL];exact k8)]
    refine H.wg ?_;intro _ w H;exact⟨hX _ (λr hr=>H.laid r (by simp[hr])),V5,(),ar.trans aN,⟨rfl,hno⟩,H.sx⟩
   | some px =>rw[k8]at hres;obtain⟨rfl,jU⟩:=hres;have Ts:=aaE gk hF (by rw[fL];exact k8);have hpl:=(Pf hf hpo hdl Ts).2 px ah;refine wk ?_;refine Rel.jO H (i:=0) rfl jU aa ?_;intro r1 w H;simp only[bH]at H;refine H.wg ?_;intro w H;refine⟨hX _ (λr hr=>H.laid r (by simp[hr])),V5,(r1,R++[px]),ar.trans aN,Ts,?_⟩;rw[List.flatten_append,List.flatten_singleton];exact H.sx
  ·clear H;rintro D w⟨r,R⟩V4 ar hF H;simp only[bb,aL]at H;rw[xy,bJ (by rw[qE];omega)]at hF;dsimp only at hF H;have k8:sF f pal wd ht d=some (turn f R).flatten:=by unfold sF;rw[hF]
   have Tr:=hF;rw[<-bJ (l:=fi (rowOf f wd) ht d) (i:=ht) (by rw[qE];omega)]at Tr;obtain⟨qc,Mf⟩:=Pf hf hpo hdl Tr;have adF:R.length=ht:=by rw[(vq hF).1,qE]
   have hfr:=AK Mf;rw[adF]at hfr;have aeh:R.flatten.length<=20000:=by rw[hfr.1];have:=mg hh (show 3*wd<=192 by omega);omega
   rw[k8];obtain⟨V5,aN,H,jU⟩:=Rel.aJ H;refine wk ?_;refine H.us (adL H.data aa ps) ?_;intro w H;by_cases yI:f%2=1
   ·rw[bw yI];refine wk ?_;rw[show 3*(wd:Int)=((3*wd:Nat):Int)by omega];refine(aji (h:=ht) H.data jU aa aa aa hfr.1 aa).use ?_;rintro v w⟨r6,rfl,K⟩;replace H:=H.cq K;rw[hfr.2]at H;obtain⟨V6,bC,H,vX⟩:=Rel.aJ H;refine H.wg ?_;intro _ _ w H;refine⟨H.mark ah,λw' kh=>?_⟩;replace H:=H.Kj (own':=[.ay b9 [.bool true] 4,.ay b8 [r6.v] 22]) (by repeat (first|exact zb _|refine List.Sublist.cons_cons _ ?_|refine List.Sublist.cons _ ?_|exact I9 _)) rfl (by simp;rfl) kh;generalize w'=w at H;refine wk ?_;refine⟨V6,r6,(((fR.trans ar).trans aN).trans bC),H.sx,rfl,?_⟩;unfold turn;rw[ag yI];exact vX
   rw[bA yI];refine H.wg ?_;intro _ w H;refine⟨H.mark ah,λw' kh=>?_⟩;replace H:=H.Kj (own':=[.ay b9 [.bool true] 4,.ay b8 [r.v] 22]) (by repeat (first|exact zb _|refine List.Sublist.cons_cons _ ?_|refine List.Sublist.cons _ ?_|exact I9 _)) rfl (by simp;rfl) kh;generalize w'=w at H;refine wk ?_;refine⟨V5,r,((fR.trans ar).trans aN),H.sx,rfl,?_⟩;unfold turn;rw[ae yI];exact jU
  clear H;rintro D c w i V4 ar⟨rfl,hno⟩H;simp only[bb,aL]at H;rw[hno];refine wk ?_;refine⟨H.mark ah,λw' kh=>?_⟩;replace H:=H.Kj (own':=[.ay b9 [.bool false] 4,.ay b8 [.slice none 0 0] 22]) (by repeat (first|exact zb _|refine List.Sublist.cons_cons _ ?_|refine List.Sublist.cons _ ?_|exact I9 _)) rfl (by simp;rfl) kh;generalize w'=w at H;refine wk ?_;exact⟨V4,⟨none,0,0⟩,fR.trans ar,H.sx,rfl⟩
end Go.Proofs.YtmoiobegbpkkbaaGreatDoor
