import Derived.Test.YtmoiobegbpkkbaaGreatDoorRAF
import Derived.Lib.ItoaMem
import Derived.Lib.ItoaLen
import Derived.Lib.AtoiAllCases
open Bool renaming and_eq_true->dM,or_eq_true->rf,eq_false_iff->aet
open Int renaming toNat_natCast->e8,toNat_of_nonneg->q9
open List renaming getElem?_map->eu,mem_iff_getElem?->uh,getElem?_zipIdx->Gl,all_eq_true->bj,contains_iff_mem->pV,mem_cons->bB,append_nil->cm,length_nil->aI,take_append_drop->eN,getElem?_eq_some_iff->cW,length_cons->av,append_assoc->bJ,cons_append->aL,nil_append->aA,mem_map->cG,length_append->aq,length_drop->bd,drop_left->k7,flatMap_cons->bz,mem_append->cq,mem_flatMap->um,eq_nil_of_length_eq_zero->bL,mem_of_getElem?->fH,pairwise_append->ue,getElem?_append_left->vL,flatMap_append->bT,mem_singleton->cv,flatMap_map->vN,map_cons->fq,sum_cons->pR,map_congr_left->kY,drop_zero->kZ,head?_cons->pS,tail_cons->mJ,drop_length->yD,flatten_cons->ji,length_map->bu,map_append->eZ,map_nil->kx,map_map->kz,map_id->pT,append_eq_nil_iff->A1,replicate_succ->Lx,length_pos_iff->jF,pairwise_map->Ts,takeWhile_cons->aev,takeWhile_append_dropWhile->qY,count_eq_zero->aey
open Nat renaming le_refl->aK,add_comm->uk,add_zero->mK,add_assoc->yF,zero_add->dU,zero_le->cu
open Option renaming map_eq_some_iff->il
open Option.some renaming injEq->kv,inj->kX
open UInt8 renaming toNat_ofNat'->jl,toNat_inj->eF,toNat_lt->dY,ofNat_toNat->A2
namespace Go.Proofs.YtmoiobegbpkkbaaGreatDoor
open Go Go.RowKit
set_option maxRecDepth 100000
set_option maxHeartbeats 8000000
variable{fl n i e u:Nat}{Z cs ks:au}{b l r t x lb:ad}{c s d:UInt8}{z:List Int}{o:Bool}{v:ar}{p:UInt8->Bool}
abbrev bG:=ad×Bool
def aO(n:Nat):UInt8:=if n=0 then 44 else if n=1 then 59 else 9
def cd(k:Bool):ad:=if k=true then[13,10]else[10]
def oO(s c:UInt8):Bool:=decide (c=s)||decide (c=34)||decide (c=13)||decide (c=10)
def eA(s:UInt8)(x:ad):Bool:=x.any (oO s)
def cx:ad->ad
 | []=>[]
 | c::t=>if c=34 then 34::34::cx t else c::cx t
def gz(c:bG):ad:=if c.2=true then 34::(cx c.1++[34])else c.1
def vD(s:UInt8)(c:bG):Prop:=c.2=true\/eA s c.1=false
def eY(s:UInt8):List bG->ad
 | []=>[]
 | [c]=>gz c
 | c::d::r=>gz c++s::eY s (d::r)
def fD(s:UInt8)(e:ad)(o:Bool):List (List bG)->ad
 | []=>[]
 | [r]=>eY s r++(if o=true then[]else e)
 | r::q::R=>eY s r++(e++fD s e o (q::R))
def fk:ad->Option (ad×ad)
 | []=>none
 | [c]=>if c=34 then some ([],[])else none
 | c::d::t=>if c=34 then(if d=34 then(match fk t with
   | none=>none
   | some p=>some (34::p.1,p.2))else some ([],d::t))else(match fk (d::t)with
   | none=>none
   | some p=>some (c::p.1,p.2))
def hK(s:UInt8):ad->ad×ad
 | []=>([],[])
 | c::t=>if oO s c=true then([],c::t)else(c::(hK s t).1,(hK s t).2)
def oE(s:UInt8)(l:ad):Option (bG×ad) :=
 if l.head?=some 34 then(match fk l.tail with
  | none=>none
  | some p=>some ((p.1,true),p.2))
 else if(hK s l).2.head?=some 34 then none else some (((hK s l).1,false),(hK s l).2)
theorem DL:∀ {l x t:ad},fk l=some (x,t)->l=cx x++34::t/\t.head?≠some 34
 | [],x,t,h=>by cases h
 | [c],x,t,h=>by
  unfold fk at h;split at h
  ·rename_i hc;cases h;rw[hc];exact⟨rfl,ai⟩
  ·cases h
 | c::d::r,x,t,h=>by
  unfold fk at h;split at h
  ·rename_i hc;split at h
   ·rename_i hd;split at h
    ·cases h
    ·rename_i p hp;cases h;obtain⟨h1,h2⟩:=DL (x:=p.1) (t:=p.2) hp;refine⟨?_,h2⟩;rw[hc,hd,cx,if_pos rfl,h1];rfl
   ·rename_i hd;cases h;rw[hc];exact⟨rfl,by simpa using hd⟩
  ·rename_i hc;split at h
   ·cases h
   ·rename_i p hp;cases h;obtain⟨h1,h2⟩:=DL (x:=p.1) (t:=p.2) hp;refine⟨?_,h2⟩;rw[cx,if_neg hc,h1];rfl
theorem T0:∀(x:ad) {t:ad},t.head?≠some 34->fk (cx x++34::t)=some (x,t)
 | [],[],_=>rfl
 | [],d::t,h=>by
  show fk (34::d::t)=_;unfold fk;rw[if_pos rfl,if_neg (by simpa using h)]
 | c::x,t,h=>by
  have ih:=T0 x h;unfold cx;split
  ·rename_i hc;show fk (34::34::(cx x++34::t))=_;unfold fk;rw[if_pos rfl,if_pos rfl,ih,hc]
  ·rename_i hc;show fk (c::(cx x++34::t))=_;obtain⟨d,r,hd⟩:∃d r,cx x++34::t=d::r:=by
    cases he:cx x++34::t with
    | nil=>simp at he
    | cons d r=>exact⟨d,r,rfl⟩
   rw[hd]at ih |-;unfold fk;rw[if_neg hc,ih]
theorem DX(s:UInt8):∀(l:ad),l=(hK s l).1++(hK s l).2/\eA s (hK s l).1=false
 | []=>⟨rfl,rfl⟩
 | c::t=>by
  unfold hK;obtain⟨h1,h2⟩:=DX s t;split
  ·exact⟨rfl,rfl⟩
  ·rename_i hc;refine⟨by(conv=>lhs;rw[h1]);rfl,?_⟩;unfold eA at h2 |-;rw[List.any_cons,h2];simpa using hc
theorem MH{s:UInt8}:∀ {x t:ad},eA s x=false->(t=[]\/∃h r,t=h::r/\oO s h=true)->hK s (x++t)=(x,t)
 | [],t,_,h=>by
  rcases h with rfl|⟨c,r,rfl,hc⟩
  ·rfl
  ·show hK s (c::r)=_;unfold hK;rw[if_pos hc]
 | c::x,t,hn,h=>by
  unfold eA at hn;rw[List.any_cons,Bool.or_eq_false_iff]at hn;have ih:=MH (x:=x) hn.2 h;show hK s (c::(x++t))=_;unfold hK;rw[if_neg (by rw[hn.1];decide),ih]
theorem TX{s:UInt8}{l:ad}{c:bG}{t:ad}(h:oE s l=some (c,t)):l=gz c++t/\vD s c/\t.head?≠some 34:=by
 unfold oE at h;split at h
 ·rename_i hh;split at h
  ·cases h
  ·rename_i p hp;cases h;obtain⟨h1,h2⟩:=DL (x:=p.1) (t:=p.2) hp;refine⟨?_,.inl rfl,h2⟩;cases l with
   | nil=>cases hh
   | cons d l =>
    cases hh;rw[mJ]at h1;rw[h1];simp[gz]
 ·split at h
  ·cases h
  ·rename_i h2;cases h;obtain⟨h3,h4⟩:=DX s l;exact⟨h3,.inr h4,h2⟩
theorem LW{s:UInt8}{l:ad}{c:bG}{t:ad}(h:oE s l=some (c,t)):t.length<=l.length:=by
 rw[(TX h).1,aq];omega
def oF(s:UInt8)(e:ad):Nat->List (List bG)->List bG->ad->Option (List (List bG)×Bool)
 | 0,_,_,_=>none
 | n+1,R,r,l=>match oE s l with
  | none=>none
  | some (c,t)=>if t=[]then some (R++[r++[c]],true)
   else if t.take e.length=e then(if t.drop e.length=[]then some (R++[r++[c]],false)else oF s e n (R++[r++[c]]) [] (t.drop e.length))
   else if t.head?=some s then oF s e n R (r++[c]) t.tail else none
theorem GG{s:UInt8}{e:ad}(he:e≠[]):∀ {n m:Nat} {R:List (List bG)} {r:List bG} {l:ad},l.length<n->l.length<m->oF s e n R r l=oF s e m R r l
 | 0,m,R,r,l,h,_=>by omega
 | n+1,0,R,r,l,_,h=>by omega
 | n+1,m+1,R,r,l,h1,h2=>by
  have hel:=jF.2 he;unfold oF;cases hc:oE s l with
  | none=>rfl
  | some p =>
   obtain⟨c,t⟩:=p;have hl:=LW hc;simp only;by_cases ht:t=[]
   ·rw[if_pos ht,if_pos ht]
   ·have htl:=jF.2 ht;rw[if_neg ht,if_neg ht];by_cases h3:t.take e.length=e
    ·rw[if_pos h3,if_pos h3];by_cases h4:t.drop e.length=[]
     ·rw[if_pos h4,if_pos h4]
     ·rw[if_neg h4,if_neg h4];exact GG he (by rw[bd];omega) (by rw[bd];omega)
    ·rw[if_neg h3,if_neg h3];by_cases h4:t.head?=some s
     ·rw[if_pos h4,if_pos h4];exact GG he (by rw[List.length_tail];omega) (by rw[List.length_tail];omega)
     ·rw[if_neg h4,if_neg h4]
def kA(s:UInt8)(e:ad)(R:List (List bG))(r:List bG)(l:ad):Option (List (List bG)×Bool):=oF s e (l.length+1) R r l
def uo(s:UInt8)(e:ad)(R:List (List bG))(l:ad):Option (List (List bG)×Bool):=if l=[]then some (R,false)else kA s e R [] l
section
variable{s:UInt8}{e:ad}{R:List (List bG)}{r:List bG}{l t:ad}{c:bG}
theorem GD(h:oE s l=none):kA s e R r l=none:=by
 unfold kA oF;rw[h]
theorem LY(h:oE s l=some (c,[])):kA s e R r l=some (R++[r++[c]],true):=by
 unfold kA oF;rw[h];rfl
theorem LZ(he:e≠[])(h:oE s l=some (c,t))(h2:t.take e.length=e):kA s e R r l=uo s e (R++[r++[c]]) (t.drop e.length):=by
 have hel:=jF.2 he;have hl:=LW h;have htl:0<t.length:=by
  have:=congrArg List.length h2;rw[List.length_take]at this;omega
 unfold kA oF;rw[h];simp only;rw[if_neg (List.ne_nil_of_length_pos htl),if_pos h2];unfold uo;by_cases h4:t.drop e.length=[]
 ·rw[if_pos h4,if_pos h4]
 ·rw[if_neg h4,if_neg h4];unfold kA;exact GG he (by rw[bd];omega) aa
theorem L5(he:e≠[])(h:oE s l=some (c,s::t))(h2:(s::t).take e.length≠e):kA s e R r l=kA s e R (r++[c]) t:=by
 have hl:=LW h;rw[av]at hl;unfold kA;conv=>lhs;unfold oF
 rw[h];simp only;rw[if_neg ai,if_neg h2,if_pos pS,mJ];exact GG he aa aa
theorem L6(h:oE s l=some (c,t))(h1:t≠[])(h2:t.take e.length≠e)(h3:t.head?≠some s):kA s e R r l=none:=by
 unfold kA oF;rw[h];simp only;rw[if_neg h1,if_neg h2,if_neg h3]
end
structure WX(s:UInt8)(e:ad)(R:List (List bG))(r:List bG)(l:ad)(X:List (List bG))(o:Bool):Prop where
 ex:∃(q:List bG) (Q:List (List bG)),q≠[]/\X=R++(r++q)::Q/\l=fD s e o (q::Q)/\(∀a∈q::Q,a≠[]/\∀c∈a,vD s c)
theorem L9{s:UInt8}{e:ad}:∀ {n:Nat} {R:List (List bG)} {r:List bG} {l:ad} {X:List (List bG)} {o:Bool},oF s e n R r l=some (X,o)->WX s e R r l X o
 | 0,R,r,l,X,o,h=>by cases h
 | n+1,R,r,l,X,o,h=>by
  unfold oF at h;split at h
  ·cases h
  ·rename_i c t hc;obtain⟨h1,h2,h3⟩:=TX hc;have hone:∀a∈[[c]],a≠[]/\∀x∈a,vD s x:=λa ha=>by
    rw[cv.1 ha];exact⟨ai,λx hx=>by rw[cv.1 hx];exact h2⟩
   split at h
   ·rename_i ht;cases h;exact⟨[c],[],ai,rfl,by rw[h1,ht];rfl,hone⟩
   ·split at h
    ·rename_i h4;have oo:t=e++t.drop e.length:=by
      conv=>lhs;rw[<-eN e.length t,h4]
     split at h
     ·rename_i h5;cases h;refine⟨[c],[],ai,rfl,?_,hone⟩;rw[h1,oo,h5,cm];rfl
     ·obtain⟨q,Q,q1,q2,q3,q4⟩:=(L9 h).ex;refine⟨[c],q::Q,ai,?_,?_,λa ha=>?_⟩
      ·rw[q2,bJ,aA];rfl
      ·conv=>lhs;rw[h1,oo,q3]
       rfl
      ·rcases bB.1 ha with rfl|ha
       ·exact hone _ ai
       ·exact q4 a ha
    ·split at h
     ·rename_i h5;have oo:t=s::t.tail:=by
       cases t with
       | nil=>cases h5
       | cons d t=>cases h5;rfl
      obtain⟨q,Q,q1,q2,q3,q4⟩:=(L9 h).ex;refine⟨c::q,Q,ai,?_,?_,λa ha=>?_⟩
      ·rw[q2,bJ];rfl
      ·rw[h1,oo,q3];have e1:eY s (c::q)=gz c++s::eY s q:=by
        cases q with
        | nil=>exact absurd rfl q1
        | cons d q=>rfl
       cases Q with
       | nil =>
        show _=eY s (c::q)++_;rw[e1];simp[fD]
       | cons p Q =>
        show _=eY s (c::q)++_;rw[e1];simp[fD]
      ·rcases bB.1 ha with rfl|ha
       ·refine⟨ai,λx hx=>?_⟩;rcases bB.1 hx with rfl|hx
        ·exact h2
        ·exact(q4 q ai).2 x hx
       ·exact q4 a (by simp[ha])
     ·cases h
def im(s:UInt8)(e:ad)(l:ad):Option (List (List bG)×Bool):=uo s e [] l
theorem LX{s:UInt8}{e l:ad}{X:List (List bG)}{o:Bool}(h:im s e l=some (X,o)):l=fD s e o X/\∀a∈X,a≠[]/\∀c∈a,vD s c:=by
 unfold im uo at h;split at h
 ·rename_i hl;cases h;exact⟨hl,ai⟩
 ·obtain⟨q,Q,q1,q2,q3,q4⟩:=(L9 h).ex;rw[q2];exact⟨q3,q4⟩
def qn(s:UInt8):Nat->List bG->au
 | _,[]=>[]
 | k,c::r=>(if(c.2&&!eA s c.1)=true then[k]else[])++qn s (k+1) r
theorem TR{s:UInt8}{c:bG}:∀ {r:List bG} {k:Nat},qn s k (r++[c])=qn s k r++(if(c.2&&!eA s c.1)=true then[k+r.length]else[])
 | [],k=>by simp[qn]
 | d::r,k=>by
  show(if _ then[k]else[])++qn s (k+1) (r++[c])=_;rw[TR (r:=r),qn,bJ,av];simp only[uk,Nat.add_left_comm]
theorem LM{s:UInt8}:∀ {r:List bG} {k j:Nat},j∈qn s k r↔∃i c,r[i]?=some c/\j=k+i/\(c.2&&!eA s c.1)=true
 | [],k,j=>by simp[qn]
 | d::r,k,j=>by
  unfold qn;rw[cq,LM (r:=r)];constructor
  ·rintro(h|⟨i,c,h1,h2,h3⟩)
   ·split at h
    ·rename_i hd;exact⟨0,d,rfl,by simpa using h,hd⟩
    ·simp at h
   ·exact⟨i+1,c,h1,aa,h3⟩
  ·rintro⟨i,c,h1,h2,h3⟩;cases i with
   | zero =>
    cases h1;left;rw[if_pos h3];simpa using h2
   | succ i=>exact .inr ⟨i,c,h1,aa,h3⟩
theorem TO{s:UInt8}:∀ {r:List bG} {k:Nat},(qn s k r).Pairwise (· < ·)/\∀n∈qn s k r,k<=n/\n<k+r.length
 | [],k=>by simp[qn]
 | d::r,k=>by
  obtain⟨h1,h2⟩:=TO (s:=s) (r:=r) (k:=k+1);unfold qn;split
  ·refine⟨List.pairwise_cons.2 ⟨λn hn=>?_,h1⟩,λn hn=>?_⟩
   ·have:=h2 n hn;omega
   ·rcases bB.1 hn with rfl|hn
    ·simp
    ·have:=h2 n hn;simp only[av];omega
  ·refine⟨h1,λn hn=>?_⟩;have:=h2 n hn;simp only[av];omega
theorem TP{s:UInt8}:∀ {r:List bG} {k:Nat},(qn s k r).length<=r.length
 | [],_=>by simp[qn]
 | d::r,k=>by
  have:=TP (s:=s) (r:=r) (k:=k+1);unfold qn;split<;>simp<;>omega
def kf(s:UInt8)(Z:au)(k:Nat)(x:ad):bG:=(x,eA s x||Z.contains k)
def qO(s:UInt8)(Z:au):Nat->bg->List bG
 | _,[]=>[]
 | k,x::r=>kf s Z k x::qO s Z (k+1) r
def nu(s:UInt8)(Z:au):Nat->List bg->List (List bG)
 | _,[]=>[]
 | k,r::R=>qO s Z k r::nu s Z (k+r.length) R
theorem Sf(s:UInt8)(Z:au):∀(r:bg) (k:Nat),(qO s Z k r).length=r.length
 | [],_=>rfl
 | x::r,k=>by simp[qO,Sf s Z r]
theorem Sc(s:UInt8)(Z:au):∀(R:List bg) (k:Nat),(nu s Z k R).length=R.length
 | [],_=>rfl
 | r::R,k=>by simp[nu,Sc s Z R]
theorem Sd{s:UInt8}{Z:au}:∀ {r:List bG} {k:Nat},(∀i c,r[i]?=some c->Z.contains (k+i)=(c.2&&!eA s c.1))->(∀c∈r,vD s c)->qO s Z k (r.map Prod.fst)=r
 | [],_,_,_=>rfl
 | c::r,k,h,hok=>by
  show kf s Z k c.1::qO s Z (k+1) (r.map Prod.fst)=_;rw[Sd (r:=r) (λi d hd=>by
   have:=h (i+1) d hd;rwa [show k+(i+1)=k+1+i by omega]at this) λd hd=>hok d (by simp[hd])]
  have h0:=h 0 c rfl;rw[mK]at h0;congr 1;obtain⟨x,q⟩:=c;unfold kf;rw[h0];rcases hok (x,q) ai with h1|h1
  ·dsimp only at h1 |-;rw[h1];cases eA s x<;>rfl
  ·dsimp only at h1 |-;rw[h1];simp
theorem Sa{s:UInt8}{Z:au}:∀ {R:List (List bG)} {k:Nat},(∀i c,R.flatten[i]?=some c->Z.contains (k+i)=(c.2&&!eA s c.1))->(∀r∈R,∀c∈r,vD s c)->nu s Z k (R.map λr=>r.map Prod.fst)=R
 | [],_,_,_=>rfl
 | r::R,k,h,hok=>by
  show qO s Z k (r.map Prod.fst)::nu s Z (k+(r.map Prod.fst).length) (R.map λr=>r.map Prod.fst)=_
  rw[bu,Sd (λi c hc=>h i c (by rw[ji,vL (cW.1 hc).1];exact hc)) (hok r ai),
   Sa (R:=R) (λi c hc=>by
    have:=h (r.length+i) c (by rw[ji,List.getElem?_append_right aa,show r.length+i-r.length=i by omega];exact hc);rwa [<-yF]at this) λq hq=>hok q (by simp[hq])]
theorem acQ{s:UInt8}{R:List (List bG)}(hok:∀r∈R,∀c∈r,vD s c):nu s (qn s 0 R.flatten) 0 (R.map λr=>r.map Prod.fst)=R :=
 Sa (λi c hc=>by
  by_cases h:(c.2&&!eA s c.1)=true
  ·rw[h,pV];exact LM.2 ⟨i,c,hc,rfl,h⟩
  ·rw[aet.2 h,aet];intro h2;rw[pV]at h2;obtain⟨j,d,h3,h4,h5⟩:=LM.1 h2;obtain rfl:i=j:=aa;rw[hc]at h3;cases h3;exact h h5) hok
abbrev nz(Z:au):List Int:=Z.map λ(n:Nat)=>(n:Int)
abbrev jN:=List bg
abbrev wV(x:ad):ar:=.mk 2 0 x [] []
abbrev vZ(r:bg):ar:=.mk 3 0 [] [] (r.map wV)
abbrev rA(T:jN):ar:=.mk 3 0 [] [] (T.map vZ)
abbrev kD(R:List (List bG)):jN:=R.map λr=>r.map Prod.fst
def lY(fl:Nat)(Z:au):ad:=if fl=0/\Z=[]then[]else aM fl++bY aM (nz Z)
def jI(n:Nat)(k o:Bool):Nat:=n+(if k=true then 3 else 0)+(if o=true then 6 else 0)
def rq(k:Bool)(R:List (List bG))(o:Bool):Bool:=decide (0<R.length)&&decide (2<=(R.headD []).length)&&(!k||decide (1<R.length)||!o)
def gq(i:Nat):Bool:=decide (i%2=1)
def jr(i:Nat)(l:ad):Option (List (List bG)×Bool):=match im (aO (i/2)) (cd (gq i)) l with
 | none=>none
 | some (R,o)=>if rq (gq i) R o=true then some (R,o)else none
def wD(l:ad):Nat->Option (Nat×List (List bG)×Bool)
 | 0=>none
 | n+1=>match jr (5-n) l with
  | some x=>some (5-n,x)
  | none=>wD l n
def wC(l:ad):Option (Nat×List (List bG)×Bool):=wD l 6
def DW(i:Nat)(R:List (List bG))(o:Bool):Option (ar×ad):=if(bI (rA (kD R))).1=0 then some (rA (kD R),lY (jI (i/2) (gq i) o) (qn (aO (i/2)) 0 R.flatten))else none
def gE(l:ad):Option (ar×ad):=match wC l with
 | none=>none
 | some (i,R,o)=>DW i R o
def cellOf(c:ar):fx:=if c.kind=2 then some c.bytes else none
def rh(r:ar):Option bg:=if r.kind=3/\r.parts≠[]then allM cellOf r.parts else none
def jJ(v:ar):Option jN:=if v.kind=3/\v.parts≠[]then allM rh v.parts else none
def kr(z:List Int):Prop:=(∀n∈z,0<=n/\n<=1000)/\z.Pairwise (· < ·)
instance(z:List Int):Decidable (kr z):=by unfold kr;infer_instance
def qa(b:ad):Option (Int×List Int):=match cD b 0 with
 | .bad _ _=>none
 | .ok c p=>match bX b (cD b) 1000 p with
  | .bad _ _=>none
  | .ok z q=>if q=b.length then some (c,z)else none
def lZ(b:ad):Option (Nat×au):=if b=[]then some (0,[])else match qa b with
 | none=>none
 | some (c,z)=>if(0<=c/\c<12)/\¬(c=0/\z=[])/\kr z then some (c.toNat,z.map Int.toNat)else none
def ry(fl:Nat)(Z:au)(T:jN):ad:=fD (aO (fl%3)) (cd (decide (fl/3%2=1))) (decide (6<=fl)) (nu (aO (fl%3)) Z 0 T)
noncomputable def lq(v:ar)(b:ad):fx:=match jJ v with
 | none=>none
 | some T=>match lZ b with
  | none=>none
  | some (fl,Z)=>if(ry fl Z T).length<=1000/\gE (ry fl Z T)=some (v,b)then some (ry fl Z T)else none
abbrev acF:ad:=[115,101,112,97,114,97,116,111,114]
abbrev acy:ad:=[99,97,114,114,105,97,103,101,32,114,101,116,117,114,110,32,97,110,100,32,108,105,110,101,32,102,101,101,100]
abbrev acB:ad:=[111,112,101,110,32,101,110,100]
abbrev acC:ad:=[113,117,111,116,101,100,32,99,101,108,108,115]
def Dd(fl n:Nat):List oT:=(if fl%3≠0 then[(acF,((fl%3:Nat):Int))]else[])++(if fl/3%2=1 then[(acy,1)]else[])++(if 6<=fl then[(acB,1)]else[])++(if 0<n then[(acC,(n:Int))]else[])
def U9(b:ad):Option (List oT):=match lZ b with
 | none=>none
 | some (fl,Z)=>some (Dd fl Z.length)
theorem adq(Z:au):(nz Z).map Int.toNat=Z:=by
 unfold nz;rw[kz];conv=>rhs;rw[<-pT Z]
 exact kY λx _=>by simp
theorem ag7(hf:fl<1000)(hl:Z.length<=1000)(hz:∀n∈Z,n<=1000):qa (aM fl++bY aM (nz Z))=some ((fl:Int),nz Z):=by
 obtain⟨b,hb⟩:∃b,b=aM (fl:Int)++bY aM (nz Z):=⟨_,rfl⟩
 rw[<-hb];have e1:b=[]++(aM (fl:Int)++bY aM (nz Z)):=by rw[hb];rfl
 have n1:=kq (n:=(fl:Int)) aa aa [] (bY aM (nz Z));rw[<-e1]at n1;have e2:b=aM (fl:Int)++(aM ((nz Z).length:Int)++((nz Z).flatMap aM++[])):=by rw[hb,bY,cm]
 have eE:(nz Z).length=Z.length:=ai;have n2:=kq (n:=((nz Z).length:Int)) aa aa (aM (fl:Int)) ((nz Z).flatMap aM++[]);rw[<-e2]at n2;have hbl:=congrArg List.length e2;simp only[aq,aI]at hbl;have n3:=Az (f:=aM) (b:=b) (one:=cD b) (nz Z) ((aM (fl:Int)).length+(aM ((nz Z).length:Int)).length) aa (λx hx q r hq hd=>by
  obtain⟨n,hn,rfl⟩:=cG.1 hx;have:=hz n hn;have e:b=b.take q++(aM (n:Int)++r):=by rw[<-hd,eN]
  have eW:(b.take q).length=q:=by simp;omega
  have:=kq (n:=(n:Int)) aa aa (b.take q) r;rwa [eW,<-e]at this) [] (by
   rw[<-List.drop_drop];conv=>lhs;rw[e2]
   rw[k7,k7])
 unfold qa;simp only[aI,dU]at n1;rw[n1];simp only;unfold bX;rw[n2];simp only;rw[if_neg aa,e8,n3];simp only;rw[if_pos aa]
theorem ag8{c:Int}(h:qa b=some (c,z)):b=aM c++bY aM z/\dx c/\z.length<=1000:=by
 unfold qa at h;split at h
 ·cases h
 ·rename_i c' p h1;split at h
  ·cases h
  ·rename_i z' q h2;split at h
   ·rename_i hq;cases h;have a1:=lO (cu _) h1;obtain⟨a2,a3,_,a4⟩:=eX (cu _) h1;unfold bX at h2;split at h2
    ·cases h2
    ·rename_i n p2 h3;split at h2
     ·cases h2
     ·rename_i hn;have b1:=lO a3 h3;obtain⟨b2,b3,_,b4⟩:=eX a3 h3;obtain⟨c1,c2,c3,c4⟩:=yl (f:=aM) (b:=b) (one:=cD b) (λp q x hp h=>by
       obtain⟨d1,d2,_,_⟩:=eX hp h;exact⟨aa,d2,lO hp h⟩) n.toNat p2 q z b3 h2
      rw[kZ]at a1;rw[hq,yD,cm]at c4;refine⟨?_,a4,aa⟩;rw[a1,b1,c4,bY,c1,q9 aa]
   ·cases h
theorem Vb(hf:fl<12)(hl:Z.length<=1000)(hz:kr (nz Z)):lZ (lY fl Z)=some (fl,Z):=by
 unfold lY;split
 ·rename_i h;obtain⟨rfl,rfl⟩:=h;rfl
 ·rename_i hne;unfold lZ;rw[if_neg,ag7 aa hl λn hn=>by have:=hz.1 (n:Int) (cG.2 ⟨n,hn,rfl⟩);omega]
  ·simp only;rw[if_pos,e8,adq];refine⟨aa,λq=>hne ⟨aa,?_⟩,hz⟩;have:=q.2;simpa [nz]using this
  ·intro h;have:=congrArg List.length h;have:=pM (zz (fl:Int));simp only[aq,aM,aI]at *;omega
theorem adr(h:∀n∈z,0<=n):nz (z.map Int.toNat)=z:=by
 unfold nz;rw[kz];conv=>rhs;rw[<-pT z]
 refine kY λx hx=>?_;have:=h x hx;show((x.toNat:Nat):Int)=x;omega
theorem ahh(h:lZ b=some (fl,Z)):fl<12/\Z.length<=1000/\(∀n∈Z,n<=1000)/\b=lY fl Z:=by
 unfold lZ at h;split at h
 ·rename_i hb;cases h;exact⟨aa,ai,ai,by rw[hb];rfl⟩
 ·split at h
  ·cases h
  ·rename_i c z hr;obtain⟨h1,h2,h3⟩:=ag8 hr;split at h
   ·rename_i hc;cases h;obtain⟨c1,c2,c3⟩:=hc;have hz:=adr λn hn=>(c3.1 n hn).1;refine⟨aa,by simpa using h3,λn hn=>?_,?_⟩
    ·obtain⟨x,hx,rfl⟩:=cG.1 hn;have:=c3.1 x hx;omega
    ·unfold lY;rw[if_neg,hz,q9 c1.1]
     ·exact h1
     ·rintro⟨q1,q2⟩;refine c2 ⟨aa,?_⟩;simpa using q2
   ·cases h
theorem ahg:lZ []=some (0,[]):=by unfold lZ;rw[if_pos rfl]
theorem aha :lY fl Z=[]↔fl=0/\Z=[]:=by
 unfold lY;constructor
 ·intro h;split at h
  ·assumption
  ·have:=congrArg List.length h;have:=pM (zz (fl:Int));simp only[aq,aM,aI]at *;omega
 ·intro h;rw[if_pos h]
theorem acu(hf:fl<12):Dd fl n=[]↔fl=0/\n=0:=by
 unfold Dd;by_cases h1:fl%3=0
 ·by_cases h2:fl/3%2=1
  ·simp[h1,h2];omega
  ·by_cases h3:6<=fl
   ·simp[h3];omega
   ·by_cases h4:0<n
    ·simp[h4];omega
    ·simp[h1,h2,h3,h4];omega
 ·simp[h1];omega
theorem acs(fl n:Nat):(Dd fl n).length<=4:=by
 unfold Dd;simp only[aq];split<;>split<;>split<;>split<;>simp
theorem Tc(hl:Z.length<=1000)(hz:∀n∈Z,n<=1000):(bY aM (nz Z)).length<=10010:=by
 have:=vI (f:=aM) (m:=10) (l:=nz Z) (by simp;omega) λx hx=>by
  obtain⟨n,hn,rfl⟩:=cG.1 hx;have:=hz n hn;exact fj aa aa
 simp only[bu]at this;omega
theorem ag9(hf:fl<1000)(hl:Z.length<=1000)(hz:∀n∈Z,n<=1000):(lY fl Z).length<=10020:=by
 have h1:=Tc hl hz;have h2:=fj (n:=(fl:Int)) aa aa;unfold lY;split
 ·simp
 ·rw[aq];omega
theorem U8{l:ad}{i:Nat}{R:List (List bG)}{o:Bool}:∀ {n:Nat},wD l n=some (i,R,o)->i<6/\jr i l=some (R,o)
 | 0,h=>by cases h
 | n+1,h=>by
  unfold wD at h;split at h
  ·rename_i x hx;cases h;exact⟨aa,hx⟩
  ·exact U8 h
theorem ahe{R:List (List bG)}(h:jr i l=some (R,o)):im (aO (i/2)) (cd (gq i)) l=some (R,o)/\rq (gq i) R o=true:=by
 unfold jr at h;split at h
 ·cases h
 ·rename_i R' o' hr;split at h
  ·rename_i hs;cases h;exact⟨hr,hs⟩
  ·cases h
theorem Hb(h:n<3)(k o:Bool):jI n k o<12/\jI n k o%3=n/\decide (jI n k o/3%2=1)=k/\decide (6<=jI n k o)=o:=by
 unfold jI;cases k<;>cases o<;>simp<;>omega
theorem SJ(c:bG):c.1.length<=(gz c).length:=by
 have he:∀x:ad,x.length<=(cx x).length:=by
  intro x;induction x with
  | nil=>simp[cx]
  | cons d x ih=>unfold cx;split<;>simp<;>omega
 unfold gz;split
 ·have:=he c.1;simp only[av,aq];omega
 ·exact aK _
theorem K1(s:UInt8):∀(r:List bG),r.length<=(eY s r).length+1/\∀c∈r,c.1.length<=(eY s r).length
 | []=>by simp
 | [c]=>⟨ai,λd hd=>by rw[cv.1 hd];exact SJ c⟩
 | c::d::r=>by
  obtain⟨h1,h2⟩:=K1 s (d::r);have h3:=SJ c;refine⟨?_,λx hx=>?_⟩
  ·simp only[eY,aq,av]at h1 |-;omega
  ·have e:(eY s (c::d::r)).length=(gz c).length+((eY s (d::r)).length+1):=by
    simp[eY]
   rw[e];rcases bB.1 hx with rfl|hx
   ·omega
   ·have:=h2 x hx;omega
theorem zV{s:UInt8}{e:ad}(he:e≠[])(o:Bool):∀(R:List (List bG)),R.flatten.length<=(fD s e o R).length+1/\(∀r∈R,∀c∈r,c.1.length<=(fD s e o R).length)/\R.length<=(fD s e o R).length+1
 | []=>by simp
 | [r]=>by
  obtain⟨h1,h2⟩:=K1 s r;have e1:(fD s e o [r]).length=(eY s r).length+(if o=true then[]else e).length:=by simp[fD]
  rw[e1];refine⟨by simp;omega,λq hq c hc=>?_,ai⟩;rw[cv.1 hq]at hc;have:=h2 c hc;omega
 | r::q::R=>by
  obtain⟨h1,h2⟩:=K1 s r;obtain⟨h3,h4,h5⟩:=zV (s:=s) he o (q::R);have hel:=jF.2 he;have e1:(fD s e o (r::q::R)).length=(eY s r).length+(e.length+(fD s e o (q::R)).length):=by simp[fD]
  rw[e1];refine⟨?_,λa ha c hc=>?_,?_⟩
  ·rw[ji,aq];omega
  ·rcases bB.1 ha with rfl|ha
   ·have:=h2 c hc;omega
   ·have:=h4 a ha c hc;omega
  ·simp only[av]at h5 |-;omega
theorem LK{s:UInt8}{b:List bG}:∀ {a:List bG} {k:Nat},qn s k (a++b)=qn s k a++qn s (k+a.length) b
 | [],k=>rfl
 | c::a,k=>by
  show _++qn s (k+1) (a++b)=_;rw[LK (a:=a),qn,bJ,av,yF,uk 1]
theorem TQ(k:Nat)(c:bG):(qn s k [c]).length<=(gz c).length:=by
 unfold qn;split
 ·rename_i h;have hc:c.2=true:=by
   rw[dM]at h;exact h.1
  unfold gz;rw[if_pos hc];simp[qn]
 ·simp[qn]
theorem LN{s:UInt8}:∀(r:List bG) (k:Nat),(qn s k r).length<=(eY s r).length
 | [],_=>by simp[qn]
 | [c],k=>TQ k c
 | c::d::r,k=>by
  have h1:=TQ (s:=s) k c;have h2:=LN (s:=s) (d::r) (k+1);have e:qn s k (c::d::r)=qn s k [c]++qn s (k+1) (d::r):=LK (a:=[c]);rw[e];simp only[eY,aq,av]at h2 |-;omega
theorem GA{s:UInt8}{e:ad}(o:Bool):∀(R:List (List bG)) (k:Nat),(qn s k R.flatten).length<=(fD s e o R).length
 | [],_=>by simp[qn]
 | [r],k=>by
  have h1:=LN (s:=s) r k;have e1:(fD s e o [r]).length=(eY s r).length+(if o=true then[]else e).length:=by simp[fD]
  rw[e1];simp only[ji,List.flatten_nil,cm];omega
 | r::q::R,k=>by
  have h1:=LN (s:=s) r k;have h2:=GA (s:=s) (e:=e) o (q::R) (k+r.length);have e1:(fD s e o (r::q::R)).length=(eY s r).length+(e.length+(fD s e o (q::R)).length):=by simp[fD]
  rw[e1,ji,LK,aq];omega
theorem ru(k:Bool):cd k≠[]:=by unfold cd;split<;>simp
theorem KW{cs:List bG}(h:cs.length<=1001):kr (nz (qn s 0 cs)):=by
 obtain⟨h1,h2⟩:=TO (s:=s) (r:=cs) (k:=0);refine⟨λn hn=>?_,?_⟩
 ·obtain⟨m,hm,rfl⟩:=cG.1 hn;have:=h2 m hm;omega
 ·unfold nz;rw[Ts];exact h1.imp λh=>by omega
structure BC(l:ad)(i:Nat)(R:List (List bG))(o:Bool):Prop where
 lt:i<6
 eq:l=fD (aO (i/2)) (cd (gq i)) o R
 ok:∀a∈R,a≠[]/\∀c∈a,vD (aO (i/2)) c
 su:rq (gq i) R o=true
theorem BC.ne{R:List (List bG)}(h:BC l i R o):R≠[]:=by
 rintro rfl;have:=h.su;simp[rq]at this
theorem UZ{R:List (List bG)}(h:wC l=some (i,R,o)):BC l i R o:=by
 obtain⟨h1,h2⟩:=U8 h;obtain⟨h3,h4⟩:=ahe h2;obtain⟨h5,h6⟩:=LX h3;exact⟨h1,h5,h6,h4⟩
theorem Vc(h:gE l=some (v,r)):∃i R o,wC l=some (i,R,o)/\BC l i R o/\(bI (rA (kD R))).1=0/\v=rA (kD R)/\r=lY (jI (i/2) (gq i) o) (qn (aO (i/2)) 0 R.flatten):=by
 unfold gE at h;split at h
 ·cases h
 ·rename_i i R o hf;unfold DW at h;split at h
  ·rename_i hv;cases h;exact⟨i,R,o,hf,UZ hf,hv,rfl,rfl⟩
  ·cases h
theorem ahi{T:jN}(h0:T≠[])(h:∀r∈T,r≠[]):jJ (rA T)=some T:=by
 unfold jJ;rw[if_pos ⟨rfl,by show T.map vZ≠[];simpa using h0⟩];show allM rh (T.map vZ)=some T;refine zx ai λi x y hx hy=>?_;rw[eu,hy]at hx;cases hx;unfold rh;rw[if_pos ⟨rfl,by show y.map wV≠[];simpa using h y (fH hy)⟩];show allM cellOf (y.map wV)=some y;refine zx ai λj a b ha hb=>?_;rw[eu,hb]at ha;cases ha;rfl
theorem Va{T:jN}(h1:jJ v=some T)(h2:lZ b=some (fl,Z))(h4:(ry fl Z T).length<=1000)(h5:gE (ry fl Z T)=some (v,b)):lq v b=some (ry fl Z T):=by
 unfold lq;rw[h1];simp only;rw[h2];simp only;rw[if_pos ⟨h4,h5⟩]
theorem ahd{T:jN}(h1:jJ v=some T)(h2:lZ b=some (fl,Z))(h4:(ry fl Z T).length<=1000->gE (ry fl Z T)≠some (v,b)):lq v b=none:=by
 unfold lq;rw[h1];simp only;rw[h2];simp only;rw[if_neg λq=>h4 q.1 q.2]
theorem ahc{T:jN}(h1:jJ v=some T)(h2:lZ b=none):lq v b=none:=by
 unfold lq;rw[h1];simp only;rw[h2]
theorem ahf{R:List (List bG)}(F:BC l i R o):ry (jI (i/2) (gq i) o) (qn (aO (i/2)) 0 R.flatten) (kD R)=l:=by
 have hi:=F.lt;obtain⟨_,f2,f3,f4⟩:=Hb (n:=i/2) aa (gq i) o;unfold ry;rw[f2,f3,f4,acQ (λr hr=>(F.ok r hr).2)];exact F.eq.symm
theorem ahk(hl:l.length<=1000)(h:gE l=some (v,r)):lq v r=some l:=by
 obtain⟨i,R,o,_,F,_,h4,h5⟩:=Vc h;have hi:=F.lt;obtain⟨q1,q2,q3⟩:=zV (s:=aO (i/2)) (ru (gq i)) o R;rw[<-F.eq]at q1 q2 q3;have hb:=ahf F;obtain⟨f1,_⟩:=Hb (n:=i/2) aa (gq i) o;have jy:=GA (s:=aO (i/2)) (e:=cd (gq i)) o R 0;rw[<-F.eq]at jy;replace jy:(qn (aO (i/2)) 0 R.flatten).length<=1000:=aa;have bF:=Vb f1 jy (KW (s:=aO (i/2)) (cs:=R.flatten) aa);rw[<-h5]at bF;have hsh:jJ v=some (kD R):=by
  rw[h4];refine ahi ?_ λa ha=>?_
  ·have:=F.ne;simpa using this
  ·obtain⟨x,hx,rfl⟩:=cG.1 ha;have:=(F.ok x hx).1;simpa using this
 have:=Va hsh bF (by rw[hb];exact hl) (by rw[hb];exact h);rwa [hb]at this
theorem KG{α:Type}{x:List α}:∀ {R:List (List α)},x∈R->x.length<=R.flatten.length
 | r::R,h=>by
  rw[ji,aq];rcases bB.1 h with rfl|h
  ·omega
  ·have:=KG h;omega
theorem We{T:jN}(h1:T.length<=1000000)(h2:∀r∈T,r.length<=1000000/\∀x∈r,x.length<=1000000):VB 1048576 (rA T) :=
 .mk (j1 3) (j1 0) (cu _) (cu _) ai (by show(T.map vZ).length<=_;simp;omega) (by
  intro x hx;obtain⟨r,hr,rfl⟩:=cG.1 (show x∈T.map vZ from hx);obtain⟨h3,h4⟩:=h2 r hr;exact .mk (j1 3) (j1 0) (cu _) (cu _) ai (by show(r.map wV).length<=_;simp;omega) (by
   intro y hy;obtain⟨c,hc,rfl⟩:=cG.1 (show y∈r.map wV from hy);exact wF (by have:=h4 c hc;omega)))
theorem MF(hl:b.length<=1000)(h:gE b=some (v,r)):VB 1048576 v/\(bI v).1=0/\(jJ v).isSome=true/\lq v r=some b/\r.length<=100000000/\∃ls,U9 r=some ls/\ls.length<=4/\(ls=[]↔r=[]):=by
 have bW:=ahk hl h;have hsh:(jJ v).isSome=true:=by
  unfold lq at bW;cases hs:jJ v with
  | none=>rw[hs]at bW;cases bW
  | some T=>rfl
 obtain⟨i,R,o,_,F,hv,h4,h5⟩:=Vc h;have hi:=F.lt;obtain⟨q1,q2,q3⟩:=zV (s:=aO (i/2)) (ru (gq i)) o R;have jy:=GA (s:=aO (i/2)) (e:=cd (gq i)) o R 0;rw[<-F.eq]at q1 q2 q3 jy;obtain⟨f1,_⟩:=Hb (n:=i/2) aa (gq i) o;have hok:=KW (s:=aO (i/2)) (cs:=R.flatten) aa;have hz:∀n∈qn (aO (i/2)) 0 R.flatten,n<=1000:=λn hn=>by
  have:=hok.1 (n:Int) (cG.2 ⟨n,hn,rfl⟩);omega
 refine⟨?_,by rw[h4];exact hv,hsh,bW,?_,?_⟩
 ·rw[h4];refine We (by simp;omega) λa ha=>?_;obtain⟨x,hx,rfl⟩:=cG.1 ha;have hxl:=KG hx;refine⟨by simp;omega,λy hy=>?_⟩;obtain⟨c,hc,rfl⟩:=cG.1 hy;have:=q2 x hx c hc;omega
 ·rw[h5];have:=ag9 (fl:=jI (i/2) (gq i) o) aa (Z:=qn (aO (i/2)) 0 R.flatten) aa hz;omega
 ·unfold U9;rw[h5,Vb f1 aa hok];refine⟨_,rfl,acs _ _,?_⟩;rw[acu f1,aha,List.length_eq_zero_iff]
theorem Hc{a:ad}(h:∀c∈a,p c=true){t:ad}(ht:∀c r,t=c::r->p c=false):(a++t).takeWhile p=a/\(a++t).dropWhile p=t:=by
 induction a with
 | nil =>
  cases t with
  | nil=>exact⟨rfl,rfl⟩
  | cons c r=>simp[ht c r rfl]
 | cons c a ih =>
  obtain⟨h1,h2⟩:=ih λx hx=>h x (by simp[hx]);have hc:=h c ai;simp only[aL,aev,List.dropWhile_cons,hc,if_true];exact⟨by rw[h1],h2⟩
theorem MD{p:UInt8->Bool}:∀ {l:ad},∀c∈l.takeWhile p,p c=true
 | [],c,h=>by simp at h
 | x::l,c,h=>by
  simp only[aev]at h;split at h
  ·rename_i hx;rcases bB.1 h with rfl|h
   ·exact hx
   ·exact MD c h
  ·simp at h
theorem IX{α β:Type}{f g:α->List β}:∀ {l:List α},(∀x∈l,f x=g x)->l.flatMap f=l.flatMap g
 | [],_=>rfl
 | x::l,h=>by rw[bz,bz,h x ai,IX λy hy=>h y (by simp[hy])]
abbrev cf(c:UInt8):Bool:=decide (c=32)||decide (c=9)||decide (c=13)||decide (c=10)
abbrev oJ(c:UInt8):Bool:=decide (c.toNat<32)||decide (126<c.toNat)
abbrev kp(c:UInt8):Bool:=decide (48<=c.toNat)&&decide (c.toNat<=57)
abbrev ny(c:UInt8):Bool:=jh c.toNat
def kR(n:Nat):UInt8:=if n<10 then UInt8.ofNat (48+n)else UInt8.ofNat (87+n)
def se(c:UInt8):Option Nat:=if 48<=c.toNat/\c.toNat<=57 then some (c.toNat-48)else if 97<=c.toNat/\c.toNat<=102 then some (c.toNat-87)else none
theorem Fm(h:se c=some n):n<16/\kR n=c:=by
 unfold se at h;split at h
 ·cases h;rename_i h1;refine⟨aa,?_⟩;unfold kR;rw[if_pos aa];apply eF.1;rw[jl];omega
 ·split at h
  ·cases h;rename_i h1;refine⟨aa,?_⟩;unfold kR;rw[if_neg aa];apply eF.1;rw[jl];omega
  ·cases h
def k9(c:UInt8):ad:=if c=34\/c=92 then[92,c]else if oJ c=true then[92,120,kR (c.toNat/16),kR (c.toNat%16)]else[c]
def jH(b:ad):ad:=b.flatMap k9
def pY(b:ad):ad:=34::(jH b++[34])
def zQ:ad->Option (UInt8×ad)
 | []=>none
 | c::r=>if c=34\/c=92 then some (c,r)else if c≠120 then none else match r with
  | h::l::r'=>(match se h,se l with
   | some a,some b=>if oJ (UInt8.ofNat (16*a+b))=true then some (UInt8.ofNat (16*a+b),r')else none
   | _,_=>none)
  | _=>none
theorem Pq(c:UInt8)(r:ad):zQ (c::r)=if c=34\/c=92 then some (c,r)else if c≠120 then none else match r with
  | h::l::r'=>(match se h,se l with
   | some a,some b=>if oJ (UInt8.ofNat (16*a+b))=true then some (UInt8.ofNat (16*a+b),r')else none
   | _,_=>none)
  | _=>none:=rfl
def lr:Nat->ad->Option (ad×ad)
 | 0,_=>none
 | _+1,[]=>none
 | n+1,c::r=>if c=34 then some ([],r)else if oJ c=true then none else if c=92 then(match zQ r with
   | none=>none
   | some (d,r')=>(lr n r').map λx=>(d::x.1,x.2))else(lr n r).map λx=>(c::x.1,x.2)
theorem TS(h:d=34\/d=92):k9 d=[92,d]:=by unfold k9;rw[if_pos h]
theorem LQ(h:oJ d=true):k9 d=[92,120,kR (d.toNat/16),kR (d.toNat%16)]:=by
 have:¬(d=34\/d=92):=by
  rintro(rfl|rfl)<;>exact absurd h ag
 unfold k9;rw[if_neg this,if_pos h]
theorem LP(h1:¬(d=34\/d=92))(h2:oJ d=false):k9 d=[d]:=by
 unfold k9;rw[if_neg h1,if_neg (by simp[h2])]
theorem Pr(h:zQ r=some (d,t)):92::r=k9 d++t/\t.length<r.length:=by
 cases r with
 | nil=>simp[zQ]at h
 | cons c r =>
  rw[Pq]at h;split at h
  ·rename_i hc;cases h;rw[TS hc];exact⟨rfl,ai⟩
  ·split at h
   ·cases h
   ·rename_i h1 h2;have hc:c=120:=Decidable.not_not.1 h2;split at h
    ·rename_i x y r';split at h
     ·rename_i a b ha hb;split at h
      ·rename_i hs;cases h;obtain⟨a1,a2⟩:=Fm ha;obtain⟨b1,b2⟩:=Fm hb;have hn:(UInt8.ofNat (16*a+b)).toNat=16*a+b:=by rw[jl];omega
       rw[LQ hs,hn,show(16*a+b)/16=a by omega,show(16*a+b)%16=b by omega,a2,b2,hc];exact⟨rfl,by simp;omega⟩
      ·cases h
     ·cases h
    ·cases h
theorem MN:∀ {n:Nat} {l b t:ad},lr n l=some (b,t)->l=jH b++34::t
 | 0,l,b,t,h=>by simp[lr]at h
 | n+1,[],b,t,h=>by simp[lr]at h
 | n+1,c::r,b,t,h=>by
  rw[lr]at h;split at h
  ·rename_i hc;cases h;rw[hc];rfl
  ·rename_i hc;split at h
   ·cases h
   ·rename_i hs;split at h
    ·rename_i xq;split at h
     ·cases h
     ·rename_i d r' he;obtain⟨x,hx,h⟩:=il.1 h;obtain⟨b',t'⟩:=x;cases h;have ih:=MN hx;rw[xq,(Pr he).1,ih];simp[jH]
    ·rename_i xq;obtain⟨x,hx,h⟩:=il.1 h;obtain⟨b',t'⟩:=x;cases h;have ih:=MN hx;rw[ih];simp[jH,LP (d:=c) (by rintro(h|h);exact hc h;exact xq h) (by simpa using hs)]
theorem aeR(c:UInt8):∃x r,k9 c=x::r/\x≠34:=by
 by_cases h1:c=34\/c=92
 ·exact⟨92,[c],TS h1,ag⟩
 ·by_cases h2:oJ c=true
  ·exact⟨92,_,LQ h2,ag⟩
  ·exact⟨c,[],LP h1 (by simpa using h2),λe=>h1 (.inl e)⟩
def rC(s:ad):Option Int:=match Lib.atoiAll s with
 | .ok v=>if Lib.itoa v=s then some v else none
 | _=>none
theorem ahz{s:ad}{v:Int}(h:rC s=some v):s=Lib.itoa v/\dx v:=by
 unfold rC at h;split at h
 ·rename_i u hu;split at h
  ·rename_i he;cases h;exact⟨he.symm,Lib.atoiAll_bounds hu⟩
  ·cases h
 ·cases h
theorem OZ(h:n<10):(UInt8.ofNat (48+n)).toNat=48+n:=by rw[jl];omega
theorem IF:∀(u:Nat),∀c∈Lib.decDigits u,kp c=true:=by
 intro u;induction u using Nat.strongRecOn with
 | _ u ih =>
  intro c hc;by_cases h:u<10
  ·rw[Lib.decDigits_one h]at hc;simp only[cv]at hc;subst hc;simp only[kp,OZ h];simp;omega
  ·rw[Lib.decDigits,dif_neg h]at hc;rcases cq.1 hc with hc|hc
   ·exact ih (u/10) aa c hc
   ·simp only[cv]at hc;subst hc;simp only[kp,OZ (show u%10<10 by omega)];simp;omega
theorem Y2(u:Nat):∃c r,Lib.decDigits u=c::r:=by
 cases h:Lib.decDigits u with
 | nil =>
  have:=Lib.decDigits_length u;rw[h]at this;have:=Lib.nDigits_pos u;simp at *;omega
 | cons c r=>exact⟨c,r,rfl⟩
def vC(l:ad):ad:=match l with
 | []=>[]
 | c::r=>if c=45 then 45::r.takeWhile kp else(c::r).takeWhile kp
theorem Sv(c:UInt8)(r:ad):vC (c::r)=if c=45 then 45::r.takeWhile kp else(c::r).takeWhile kp:=rfl
theorem adn(l:ad):∃t,l=vC l++t:=by
 cases l with
 | nil=>exact⟨[],rfl⟩
 | cons c r =>
  rw[Sv];split
  ·rename_i h;exact⟨r.dropWhile kp,by rw[h,aL,qY]⟩
  ·exact⟨(c::r).dropWhile kp,by rw[qY]⟩
theorem FD(v:Int):∃c r,Lib.itoa v=c::r/\(c=45\/kp c=true)/\∀x∈r,kp x=true:=by
 unfold Lib.itoa;split
 ·exact⟨45,_,rfl,.inl rfl,IF _⟩
 ·obtain⟨c,r,hc⟩:=Y2 v.toNat;rw[hc];exact⟨c,r,rfl,.inr (IF v.toNat c (by rw[hc];simp)),λx hx=>IF v.toNat x (by rw[hc];simp[hx])⟩
abbrev Tok:=ad
abbrev af(s:Tok):Bool:=decide (s=[44])||decide (s=[58])
abbrev sZ(sp:Bool):ad:=if sp=true then[32]else[]
def fm:ar->List Tok
 | .mk k n b s ps=>if k=1 then[Lib.itoa n]else if k=2 then[pY b]else
  [if k=4 then 123 else 91]::((ps.attach.zipIdx.flatMap λp=>(if p.2=0 then[]else[[44]])++((if k=4 then[s.getD p.2 [],[58]]else[])++fm p.1.1))++[[if k=4 then 125 else 93]])
decreasing_by
 have:=List.sizeOf_lt_of_mem p.1.2
 simp only[ar.mk.sizeOf_spec]
 omega
def iT(k:Int)(s:bg)(i:Nat)(p:ar):List Tok:=(if i=0 then[]else[[44]])++((if k=4 then[s.getD i [],[58]]else[])++fm p)
def eP(k:Int)(s:bg)(ps:List ar):List Tok:=ps.zipIdx.flatMap λp=>iT k s p.2 p.1
abbrev pI(k:Int):Tok:=[if k=4 then 123 else 91]
abbrev qu(k:Int):Tok:=[if k=4 then 125 else 93]
theorem Bf(v:ar):fm v=if v.kind=1 then[Lib.itoa v.num]else if v.kind=2 then[pY v.bytes]else pI v.kind::(eP v.kind v.names v.parts++[qu v.kind]):=by
 cases v with
 | mk k n b s ps =>
  rw[fm];simp only[ar.parts];split
  ·rfl
  ·split
   ·rfl
   ·congr 2;unfold eP iT;conv=>rhs;rw[<-List.attach_map_subtype_val ps,List.zipIdx_map,vN]
    rfl
theorem Hf(n:Int):fm (.mk 1 n [] [] [])=[Lib.itoa n]:=by rw[Bf,if_pos rfl]
theorem DY(b:ad):fm (.mk 2 0 b [] [])=[pY b]:=(Bf _).trans rfl
theorem DZ(ps:List ar):fm (.mk 3 0 [] [] ps)=pI 3::(eP 3 [] ps++[qu 3]):=(Bf _).trans rfl
theorem D0(s:bg)(ps:List ar):fm (.mk 4 0 [] s ps)=pI 4::(eP 4 s ps++[qu 4]):=(Bf _).trans rfl
theorem Vk(k:Int)(s:bg):eP k s []=[]:=rfl
theorem He(k:Int)(s:bg)(ps:List ar)(p:ar):eP k s (ps++[p])=eP k s ps++iT k s ps.length p:=by
 unfold eP;rw[List.zipIdx_append,bT];simp
theorem ahw(k:Int)(s t:bg)(ps:List ar)(h:k=4->ps.length<=s.length):eP k (s++t) ps=eP k s ps:=by
 unfold eP;refine IX λp hp=>?_;unfold iT;by_cases hk:k=4
 ·rw[if_pos hk,if_pos hk];have h1:=h hk;have h2:p.2<ps.length:=by
   obtain⟨i,hi⟩:=uh.1 hp;rw[Gl]at hi;obtain⟨x,hx,rfl⟩:=il.1 hi;simpa using(cW.1 hx).1
  have e:(s++t).getD p.2 []=s.getD p.2 []:=by simp[List.getD,vL (show p.2<s.length by omega)]
  rw[e]
 ·rw[if_neg hk,if_neg hk]
inductive fX:ar->Prop where
 | num {n:Int} (h:dx n):fX (.mk 1 n [] [] [])
 | iY (b:ad):fX (.mk 2 0 b [] [])
 | yj {ps:List ar} (h:∀p∈ps,fX p):fX (.mk 3 0 [] [] ps)
 | yH {s:bg} {ps:List ar} (hs:∀x∈s,gx x=true) (hl:s.length=ps.length) (h:∀p∈ps,fX p):fX (.mk 4 0 [] s ps)
structure RS where
 rest:ad
 cnt:Nat
 last:Tok
 gy:List (Nat×ad)
def uy(want:ad)(s:RS):RS:=⟨s.rest.dropWhile cf,s.cnt+1,[],if s.rest.takeWhile cf=want then s.gy else s.gy++[(s.cnt,s.rest.takeWhile cf)]⟩
def pk(s:RS):Option UInt8:=(s.rest.dropWhile cf).head?
abbrev iq(s:RS):RS:=uy (sZ (af s.last)) s
def lh(c:UInt8)(s:RS):Option RS:=if pk s=some c then some { iq s with last:=[c],rest:=(s.rest.dropWhile cf).tail }else none
def sE(s:RS):Option (ad×RS):=if pk s=none then none else
 if gx ((s.rest.dropWhile cf).takeWhile ny)=true then some ((s.rest.dropWhile cf).takeWhile ny,{ iq s with rest:=(s.rest.dropWhile cf).dropWhile ny })else none
def vB(s:RS):Option (Int×RS):=match rC (vC (s.rest.dropWhile cf))with
 | none=>none
 | some v=>some (v,{ iq s with rest:=(s.rest.dropWhile cf).drop (vC (s.rest.dropWhile cf)).length })
def uC(s:RS):Option (ad×RS):=match lr ((s.rest.dropWhile cf).length+1) (s.rest.dropWhile cf).tail with
 | none=>none
 | some (b,t)=>some (b,{ iq s with rest:=t })
abbrev EL:=bg×List ar×RS
abbrev mY:=RS->Option (ar×RS)
def nZ(f:mY)(ns:bg)(ps:List ar)(s:RS):Option EL:=match f s with
 | none=>none
 | some (v,s)=>some (ns,ps++[v],s)
def jb(f:mY)(k:Int)(x:EL):Option EL :=
 if k=4 then match sE x.2.2 with
  | none=>none
  | some (nm,s)=>match lh 58 s with
   | none=>none
   | some s=>nZ f (x.1++[nm]) x.2.1 s
 else nZ f x.1 x.2.1 x.2.2
def sC(f:mY)(k:Int):Nat->EL->Option EL
 | 0,_=>none
 | n+1,x=>match pk x.2.2 with
  | none=>none
  | some c=>if c=44 then(match lh 44 x.2.2 with
    | none=>none
    | some s=>match jb f k (x.1,x.2.1,s)with
     | none=>none
     | some y=>sC f k n y)else some x
def ng(e:UInt8)(x:EL):Option EL:=match lh e x.2.2 with
 | none=>none
 | some s=>some (x.1,x.2.1,s)
def sD(f:mY)(k:Int)(s:RS):Option EL:=match lh (if k=4 then 123 else 91) s with
 | none=>none
 | some s=>match pk s with
  | none=>none
  | some c=>if c=(if k=4 then 125 else 93)then ng (if k=4 then 125 else 93) ([],[],s)else match jb f k ([],[],s)with
   | none=>none
   | some y=>match sC f k (y.2.2.rest.length+1) y with
    | none=>none
    | some z=>ng (if k=4 then 125 else 93) z
def gC:Nat->mY
 | 0,_=>none
 | n+1,s=>match pk s with
  | none=>none
  | some c=>if c=34 then(uC s).map λx=>(.mk 2 0 x.1 [] [],x.2)
   else if c=91 then(sD (gC n) 3 s).map λx=>(.mk 3 0 [] x.1 x.2.1,x.2.2)
   else if c=123 then(sD (gC n) 4 s).map λx=>(.mk 4 0 [] x.1 x.2.1,x.2.2)
   else(vB s).map λx=>(.mk 1 x.1 [] [] [],x.2)
def uA(l:ad):Option (ar×List (Nat×ad)):=match gC (l.length+1) ⟨l,0,[],[]⟩with
 | none=>none
 | some (v,s)=>if(uy [10] s).rest=[]then some (v,(uy [10] s).gy)else none
abbrev BL:=List (ad×Tok)
def jx(L:BL):ad:=L.flatMap λp=>p.1++p.2
def gR:Nat->Bool->BL->List (Nat×ad)
 | _,_,[]=>[]
 | i,sp,p::L=>(if p.1=sZ sp then[]else[(i,p.1)])++gR (i+1) (af p.2) L
def zv(sp:Bool):BL->Bool
 | []=>sp
 | p::L=>zv (af p.2) L
theorem PE(a b:BL):jx (a++b)=jx a++jx b:=by simp[jx]
theorem ET(p:ad×Tok)(b:BL):jx (p::b)=p.1++(p.2++jx b):=by simp[jx]
theorem Nw:∀(sp:Bool) (a b:BL),zv sp (a++b)=zv (zv sp a) b
 | _,[],_=>rfl
 | _,_::a,b=>Nw _ a b
theorem O0:∀(i:Nat) (sp:Bool) (a b:BL),gR i sp (a++b)=gR i sp a++gR (i+a.length) (zv sp a) b
 | _,_,[],_=>rfl
 | i,sp,p::a,b=>by
  rw[aL,gR,gR,O0 (i+1) (af p.2) a b,bJ,av,show i+1+a.length=i+(a.length+1)by omega];rfl
structure fW(s:RS)(L:BL)(s':RS):Prop where
 rest:s.rest=jx L++s'.rest
 bk:∀p∈L,∀c∈p.1,cf c=true
 cnt:s'.cnt=s.cnt+L.length
 sp:af s'.last=zv (af s.last) L
 gy:s'.gy=s.gy++gR s.cnt (af s.last) L
theorem fW.refl(s:RS):fW s [] s:=⟨rfl,ai,rfl,rfl,by simp[gR]⟩
theorem fW.trans{a b c:RS}{L M:BL}(h:fW a L b)(k:fW b M c):fW a (L++M) c:=by
 refine⟨by rw[h.rest,k.rest,PE,bJ],λp hp=>?_,by rw[k.cnt,h.cnt,aq,yF],by rw[k.sp,h.sp,Nw],by rw[k.gy,h.gy,O0,bJ,h.cnt,h.sp]⟩;rcases cq.1 hp with hp|hp
 ·exact h.bk p hp
 ·exact k.bk p hp
theorem fW.one{s:RS}{t:Tok}{ls:Tok}(h:s.rest.dropWhile cf=t++r)(hl:af ls=af t):fW s [(s.rest.takeWhile cf,t)] { iq s with last:=ls,rest:=r }:=by
 refine⟨?_,?_,rfl,hl,?_⟩
 ·conv=>lhs;rw[<-qY (p:=cf) (l:=s.rest),h]
  simp[jx]
 ·intro p hp;simp only[cv]at hp;subst hp;exact MD
 ·simp only[uy,gR,cm];split<;>simp
theorem DR{s s':RS}(h:lh c s=some s'):fW s [(s.rest.takeWhile cf,[c])] s':=by
 unfold lh at h;split at h
 ·rename_i hp;cases h;refine fW.one ?_ rfl;unfold pk at hp;cases hd:s.rest.dropWhile cf with
  | nil=>rw[hd]at hp;cases hp
  | cons x r=>rw[hd]at hp;cases hp;rfl
 ·cases h
theorem ac6(h:gx x=true):af x=false:=by
 cases e:af x with
 | false=>rfl
 | true =>
  simp only[af,rf,decide_eq_true_eq]at e;rcases e with rfl|rfl<;>exact absurd h ag
theorem aeS(b:ad):af (pY b)=false:=by
 simp[af,pY]
theorem abS(v:Int):af (Lib.itoa v)=false:=by
 obtain⟨c,r,hc,h1,_⟩:=FD v;rw[hc];cases e:af (c::r)with
 | false=>rfl
 | true =>
  simp only[af,rf,decide_eq_true_eq,List.cons.injEq]at e;rcases e with⟨rfl,_⟩|⟨rfl,_⟩<;>rcases h1 with h1|h1<;>exact absurd h1 ag
theorem Sn{s s':RS}(h:sE s=some (x,s')):fW s [(s.rest.takeWhile cf,x)] s'/\gx x=true:=by
 unfold sE at h;split at h
 ·cases h
 ·split at h
  ·rename_i hn;cases h;exact⟨fW.one (by rw[qY]) (by rw[ac6 hn];rfl),hn⟩
  ·cases h
theorem adl{s s':RS}{v:Int}(h:vB s=some (v,s')):fW s [(s.rest.takeWhile cf,Lib.itoa v)] s'/\dx v:=by
 unfold vB at h;split at h
 ·cases h
 ·rename_i u hu;cases h;obtain⟨h1,h2⟩:=ahz hu;refine⟨fW.one ?_ (by rw[abS];rfl),h2⟩;obtain⟨t,ht⟩:=adn (s.rest.dropWhile cf);rw[h1]at ht;rw[h1];conv=>lhs;rw[ht]
  congr 1;conv=>rhs;rw[ht]
  rw[k7]
theorem ahM{s s':RS}(hp:pk s=some 34)(h:uC s=some (b,s')):fW s [(s.rest.takeWhile cf,pY b)] s':=by
 unfold uC at h;split at h
 ·cases h
 ·rename_i b' t hs;cases h;refine fW.one ?_ (by rw[aeS];rfl);have h1:=MN hs;unfold pk at hp;cases hd:s.rest.dropWhile cf with
  | nil=>rw[hd]at hp;cases hp
  | cons x r =>
   rw[hd]at hp h1;cases hp;simp only[mJ]at h1;rw[h1];simp[pY]
def wK(f:mY):Prop:=∀s v s',f s=some (v,s')->∃L,fW s L s'/\L.map Prod.snd=fm v/\fX v
structure zk(k:Int)(s0:RS)(x:EL):Prop where
 ex:∃L,fW s0 L x.2.2/\L.map Prod.snd=eP k x.1 x.2.1
 wf:∀p∈x.2.1,fX p
 nm:∀n∈x.1,gx n=true
 len:k=4->x.1.length=x.2.1.length
 nil:k≠4->x.1=[]
theorem Pb{f:mY}(hf:wK f){ns:bg}{ps:List ar}{s:RS}{y:EL}(h:nZ f ns ps s=some y):∃v L,y.1=ns/\y.2.1=ps++[v]/\fW s L y.2.2/\L.map Prod.snd=fm v/\fX v:=by
 unfold nZ at h;split at h
 ·cases h
 ·rename_i v s' hv;cases h;obtain⟨L,h1,h2,h3⟩:=hf _ _ _ hv;exact⟨v,L,rfl,rfl,h1,h2,h3⟩
theorem Pa{f:mY}(hf:wK f){k:Int}{s0 s1:RS}{ns:bg}{ps:List ar}{s:RS}{y:EL}(hx:zk k s0 (ns,ps,s1)){L0:BL}(h0:fW s1 L0 s)(hL0:L0.map Prod.snd=(if ps.length=0 then[]else[[44]]))(h:jb f k (ns,ps,s)=some y):zk k s0 y:=by
 obtain⟨⟨L,hL,ht⟩,hw,hn,hl,hz⟩:=hx;dsimp only at hL ht hw hn hl hz;unfold jb at h;split at h
 ·rename_i hk;split at h
  ·cases h
  ·rename_i nm s2 h2;split at h
   ·cases h
   ·rename_i s3 h3;obtain⟨v,M,e1,e2,h4,h5,h6⟩:=Pb hf h;obtain⟨y1,y2,y3⟩:=y;dsimp only at e1 e2 h4;subst e1 e2;obtain⟨h7,h8⟩:=Sn h2;have h9:=DR h3;refine⟨⟨_,((hL.trans h0).trans ((h7.trans h9).trans h4)),?_⟩,?_,?_,λ_=>by have:=hl hk;simp;omega,λJN=>absurd hk JN⟩
    ·rw[He,ahw k ns [nm] ps (λ_=>by have:=hl hk;omega)];unfold iT;rw[if_pos hk];have e:(ns++[nm]).getD ps.length []=nm:=by
      have:=hl hk;simp[List.getD,<-this]
     rw[e];simp only[eZ,fq,kx,ht,hL0,h5];simp
    ·intro p hp;rcases cq.1 hp with hp|hp
     ·exact hw p hp
     ·simp only[cv]at hp;subst hp;exact h6
    ·intro n hn';rcases cq.1 hn' with hn'|hn'
     ·exact hn n hn'
     ·simp only[cv]at hn';subst hn';exact h8
 ·rename_i hk;obtain⟨v,M,e1,e2,h4,h5,h6⟩:=Pb hf h;obtain⟨y1,y2,y3⟩:=y;dsimp only at e1 e2 h4;subst e1 e2;refine⟨⟨_,(hL.trans h0).trans h4,?_⟩,?_,hn,λJN=>absurd JN hk,hz⟩
  ·rw[He];unfold iT;rw[if_neg hk];simp only[eZ,ht,hL0,h5];simp
  ·intro p hp;rcases cq.1 hp with hp|hp
   ·exact hw p hp
   ·simp only[cv]at hp;subst hp;exact h6
theorem O9{f:mY}{k:Int}{x y:EL}(h:jb f k x=some y):y.2.1.length=x.2.1.length+1:=by
 have key:∀ns ps s,nZ f ns ps s=some y->y.2.1.length=ps.length+1:=by
  intro ns ps s h;unfold nZ at h;split at h
  ·cases h
  ·cases h;simp
 unfold jb at h;split at h
 ·split at h
  ·cases h
  ·split at h
   ·cases h
   ·exact key _ _ _ h
 ·exact key _ _ _ h
theorem R2{f:mY}(hf:wK f){k:Int}{s0:RS}:∀ {n:Nat} {x y:EL},zk k s0 x->x.2.1.length≠0->sC f k n x=some y->zk k s0 y
 | 0,x,y,_,_,h=>by simp[sC]at h
 | n+1,x,y,hx,hne,h=>by
  rw[sC]at h;split at h
  ·cases h
  ·split at h
   ·split at h
    ·cases h
    ·rename_i s hs;split at h
     ·cases h
     ·rename_i z hz;refine R2 hf ?_ (by rw[O9 hz];omega) h;obtain⟨ns,ps,s1⟩:=x;exact Pa hf hx (DR hs) (by rw[if_neg hne];rfl) hz
   ·cases h;exact hx
theorem Ze{e:UInt8}{x y:EL}(h:ng e x=some y):y.1=x.1/\y.2.1=x.2.1/\fW x.2.2 [(x.2.2.rest.takeWhile cf,[e])] y.2.2:=by
 unfold ng at h;split at h
 ·cases h
 ·rename_i s hs;cases h;exact⟨rfl,rfl,DR hs⟩
theorem R6{f:mY}(hf:wK f){k:Int}{s:RS}{y:EL}(h:sD f k s=some y) :
  (∃L,fW s L y.2.2/\L.map Prod.snd=pI k::(eP k y.1 y.2.1++[qu k]))/\(∀p∈y.2.1,fX p)/\(∀n∈y.1,gx n=true)/\(k=4->y.1.length=y.2.1.length)/\(k≠4->y.1=[]):=by
 obtain⟨e,he⟩:∃e,e=(if k=4 then(125:UInt8)else 93):=⟨_,rfl⟩
 have fin:∀s1 x,fW s [(s.rest.takeWhile cf,pI k)] s1->zk k s1 x->ng e x=some y ->
   (∃L,fW s L y.2.2/\L.map Prod.snd=pI k::(eP k y.1 y.2.1++[qu k]))/\(∀p∈y.2.1,fX p)/\(∀n∈y.1,gx n=true)/\(k=4->y.1.length=y.2.1.length)/\(k≠4->y.1=[]):=by
  intro s1 x h1 hx hen;obtain⟨e1,e2,h2⟩:=Ze hen;obtain⟨⟨L,hL,ht⟩,hw,hn,hl,hz⟩:=hx;rw[e1,e2];refine⟨⟨_,h1.trans (hL.trans h2),?_⟩,hw,hn,hl,hz⟩;subst he;simp[ht]
 unfold sD at h;rw[<-he]at h;split at h
 ·cases h
 ·rename_i s1 h1;have h1:=DR h1;have hz:zk k s1 ([],[],s1):=⟨⟨[],fW.refl _,rfl⟩,ai,ai,λ_=>rfl,λ_=>rfl⟩
  split at h
  ·cases h
  ·split at h
   ·exact fin s1 _ h1 hz h
   ·split at h
    ·cases h
    ·rename_i z vx;split at h
     ·cases h
     ·rename_i u hu;refine fin s1 u h1 (R2 hf ?_ (by rw[O9 vx];simp) hu) h;exact Pa hf hz (fW.refl _) ai vx
theorem GI:∀(n:Nat),wK (gC n)
 | 0=>λs v s' h=>by simp[gC]at h
 | n+1=>λs v s' h=>by
  have ih:=GI n;rw[gC]at h;split at h
  ·cases h
  ·rename_i c hc;split at h
   ·rename_i gb;obtain⟨x,hx,h⟩:=il.1 h;obtain⟨b,s2⟩:=x;cases h;exact⟨_,ahM (by rw[hc,gb]) hx,by rw[DY];rfl,.iY b⟩
   ·split at h
    ·obtain⟨x,hx,h⟩:=il.1 h;obtain⟨ns,ps,s2⟩:=x;cases h;obtain⟨⟨L,h1,h2⟩,h3,h4,h5,h6⟩:=R6 ih hx;obtain rfl:ns=[]:=h6 ag;exact⟨L,h1,by rw[DZ,h2],.yj h3⟩
    ·split at h
     ·obtain⟨x,hx,h⟩:=il.1 h;obtain⟨ns,ps,s2⟩:=x;cases h;obtain⟨⟨L,h1,h2⟩,h3,h4,h5,h6⟩:=R6 ih hx;exact⟨L,h1,by rw[D0,h2],.yH h4 (h5 rfl) h3⟩
     ·obtain⟨x,hx,h⟩:=il.1 h;obtain⟨u,s2⟩:=x;cases h;obtain⟨h1,h2⟩:=adl hx;exact⟨_,h1,by rw[Hf];rfl,.num h2⟩
abbrev Br(b:ad):Prop:=∀c∈b,cf c=true
theorem XU(h:cf c=true):c=32\/c=9\/c=13\/c=10:=by
 simpa [cf,or_assoc]using h
theorem Dj(h:gx x=true):∃c r,x=c::r/\(97<=c.toNat/\c.toNat<=122)/\∀y∈x,ny y=true:=by
 unfold gx at h;simp only[dM,decide_eq_true_eq,bj]at h;obtain⟨h1,h2,h3⟩:=h;cases x with
 | nil=>simp at h1
 | cons c r=>exact⟨c,r,rfl,by simpa using h2,h3⟩
theorem R1(h:33<=c.toNat):cf c=false:=by
 cases e:cf c with
 | false=>rfl
 | true=>rcases XU e with rfl|rfl|rfl|rfl<;>exact absurd h ag
theorem abT(v:Int):∃c r,Lib.itoa v=c::r/\cf c=false/\c≠34/\c≠91/\c≠123:=by
 obtain⟨c,r,hc,h1,_⟩:=FD v;refine⟨c,r,hc,?_⟩;rcases h1 with rfl|h1
 ·decide
 ·simp only[kp,dM,decide_eq_true_eq]at h1;refine⟨R1 aa,?_,?_,?_⟩<;>(rintro rfl;exact absurd h1 ag)
def WB(L:BL):Prop:=∀p∈L,Br p.1
def oL(k:Int)(s:bg)(i:Nat)(ps:List ar):List Tok:=(ps.zipIdx i).flatMap λp=>iT k s p.2 p.1
theorem MJ(k:Int)(s:bg)(i:Nat)(p:ar)(ps:List ar):oL k s i (p::ps)=iT k s i p++oL k s (i+1) ps:=by
 unfold oL;rw[List.zipIdx_cons,bz]
structure Fit(l:ad)(v:ar)(L:BL)(lb:ad):Prop where
 eq:l=jx L++lb
 bk:WB L
 bl:Br lb
 tk:L.map Prod.snd=fm v
 wf:fX v
abbrev pJ(L:BL)(lb:ad):List (Nat×ad):=gR 0 false L++(if lb=[10]then[]else[(L.length,lb)])
theorem dropWhile_nil(h:l.dropWhile p=[]):(∀c∈l,p c=true)/\l.takeWhile p=l:=by
 have e:l.takeWhile p=l:=by
  conv=>rhs;rw[<-qY (p:=p) (l:=l),h,cm]
 exact⟨by rw[<-e];exact MD,e⟩
theorem Vm{o:List (Nat×ad)}(h:uA l=some (v,o)):∃L lb,Fit l v L lb/\o=pJ L lb:=by
 unfold uA at h;split at h
 ·cases h
 ·rename_i v' s hv;split at h
  ·rename_i hr;cases h;obtain⟨L,h1,h2,h3⟩:=GI _ _ _ _ hv;obtain⟨h4,h5⟩:=dropWhile_nil (show s.rest.dropWhile cf=[]from hr);refine⟨L,s.rest,⟨h1.rest,h1.bk,h4,h2,h3⟩,?_⟩;have e1:=h1.gy;have e2:=h1.cnt;simp only[aA,dU]at e1 e2;simp only[uy,h5,e1,e2,pJ];split
   ·simp;rfl
   ·rfl
  ·cases h
abbrev fL:=Nat×ad
abbrev gm(x:fL):ad:=aM x.1++cP x.2
def oN(o:List fL):ad:=if o=[]then[]else bY gm o
def nD(b:ad)(p:Nat):gH (Int×ad):=match cD b p with
 | .bad c i=>.bad c i
 | .ok n q=>match kJ b q with
  | .bad c i=>.bad c i
  | .ok t r=>.ok (n,t) r
def okB(z:List (Int×ad)):Prop:=(∀x∈z,(0<=x.1/\x.1<=2000)/\∀c∈x.2,cf c=true)/\z.Pairwise λx y=>x.1<y.1
instance(z:List (Int×ad)):Decidable (okB z):=by unfold okB;infer_instance
def qc(b:ad):Option (List (Int×ad)):=match bX b (nD b) 1000 0 with
 | .bad _ _=>none
 | .ok z q=>if q=b.length then some z else none
def jK(b:ad):Option (List fL):=if b=[]then some []else match qc b with
 | none=>none
 | some z=>if z≠[]/\okB z then some (z.map λx=>(x.1.toNat,x.2))else none
def gO(l:ad):Option (ar×ad):=match uA l with
 | none=>none
 | some (v,o)=>if(bI v).1=0 then some (v,oN o)else none
structure nV where
 out:ad
 cnt:Nat
 last:Tok
def iC(Z:List fL)(i:Nat):fx:=(Z.find? λx=>decide (x.1=i)).map Prod.snd
def gN(Z:List fL)(s:nV)(t:Tok):nV:=⟨s.out++(match iC Z s.cnt with
 | some b=>b
 | none=>if t=[]then[10]else sZ (af s.last))++t,s.cnt+1,t⟩
def rD(v:ar)(Z:List fL):ad:=(gN Z ((fm v).foldl (gN Z) ⟨[],0,[]⟩) []).out
def Bg(v:ar):Option ar:=some v
noncomputable def l4(v:ar)(b:ad):fx:=match jK b with
 | none=>none
 | some Z=>open Classical in if(rD v Z).length<=1000/\gO (rD v Z)=some (v,b)then some (rD v Z)else none
abbrev acw:ad:=[98,108,97,110,107,115]
def Vn(b:ad):Option (List oT):=match jK b with
 | none=>none
 | some Z=>some (if Z.length=0 then[]else[(acw,(Z.length:Int))])
theorem adL(hn:n<=1000000)(ht:t.length<=1000000)(l r:ad):nD (l++(gm (n,t)++r)) l.length=.ok ((n:Int),t) (l.length+(gm (n,t)).length):=by
 unfold nD;have e1:l++(gm (n,t)++r)=l++(aM (n:Int)++(cP t++r)):=by simp[gm]
 have e2:l++(gm (n,t)++r)=(l++aM (n:Int))++(cP t++r):=by simp[gm]
 have h1:=kq (n:=(n:Int)) aa aa l (cP t++r);rw[<-e1]at h1;have h2:=N0 (b:=t) aa (l++aM (n:Int)) r;rw[<-e2,aq]at h2;rw[h1];simp only;rw[h2];simp only[gm,aq,yF]
theorem SO{p q:Nat}{x:Int×ad}(hp:p<=b.length)(h:nD b p=.ok x q):p<q/\q<=b.length/\b.drop p=(aM x.1++cP x.2)++b.drop q/\dx x.1:=by
 unfold nD at h;split at h
 ·cases h
 ·rename_i n r h1;split at h
  ·cases h
  ·rename_i t r' h2;cases h;obtain⟨a1,a2,_,a4⟩:=eX hp h1;obtain⟨b1,b2,b3⟩:=NZ a2 h2;refine⟨aa,b2,?_,a4⟩;rw[lO hp h1,b3,bJ]
abbrev zB(Z:List fL):List (Int×ad):=Z.map λx=>((x.1:Int),x.2)
theorem ahD{Z:List fL}(hl:Z.length<=1000)(hz:∀x∈Z,x.1<=1000000/\x.2.length<=1000000):qc (bY gm Z)=some (zB Z):=by
 obtain⟨b,hb⟩:∃b,b=bY gm Z:=⟨_,rfl⟩
 rw[<-hb];have e2:b=[]++(aM (Z.length:Int)++(Z.flatMap gm++[])):=by rw[hb,bY,cm];rfl
 have n2:=kq (n:=(Z.length:Int)) aa aa [] (Z.flatMap gm++[]);rw[<-e2]at n2;have hbl:=congrArg List.length e2;simp only[aq,aI,dU,mK]at hbl;simp only[aI,dU]at n2;have n3:=Az (f:=λx:Int×ad=>gm (x.1.toNat,x.2)) (b:=b) (one:=nD b) (zB Z) (aM (Z.length:Int)).length aa (λx hx q r hq hd=>by
  obtain⟨n,hn,rfl⟩:=cG.1 hx;obtain⟨n,t⟩:=n;have:=hz _ hn;dsimp only at this;have e:b=b.take q++(gm (n,t)++r):=by
   simp only[e8]at hd;rw[<-hd,eN]
  have eW:(b.take q).length=q:=by simp;omega
  have:=adL this.1 this.2 (b.take q) r;rw[eW,<-e]at this;simpa using this) [] (by
   conv=>lhs;rw[e2]
   rw[aA,k7];congr 1;simp[zB,vN])
 unfold qc bX;rw[n2];simp only;rw[if_neg aa,e8];have ov:(zB Z).length=Z.length:=by simp[zB]
 rw[ov]at n3;rw[n3];simp only;have e3:((zB Z).flatMap λx=>gm (x.1.toNat,x.2))=Z.flatMap gm:=by simp[zB,vN]
 rw[e3,if_pos aa]
theorem MO{z:List (Int×ad)}(h:qc b=some z):b=bY (λx=>aM x.1++cP x.2) z/\z.length<=1000:=by
 unfold qc at h;split at h
 ·cases h
 ·rename_i z' q h2;split at h
  ·rename_i hq;cases h;unfold bX at h2;split at h2
   ·cases h2
   ·rename_i n p2 h3;split at h2
    ·cases h2
    ·rename_i hn;have b1:=lO (cu _) h3;obtain⟨b2,b3,_,b4⟩:=eX (cu _) h3;obtain⟨c1,c2,c3,c4⟩:=yl (f:=λx:Int×ad=>aM x.1++cP x.2) (b:=b) (one:=nD b) (λp q x hp h=>by
      obtain⟨d1,d2,d3,_⟩:=SO hp h;exact⟨aa,d2,d3⟩) n.toNat p2 q z b3 h2
     rw[kZ]at b1;rw[hq,yD,cm]at c4;refine⟨?_,aa⟩;rw[b1,c4,bY,c1,q9 aa]
  ·cases h
theorem aiO(Z:List fL):((zB Z).map λx=>(x.1.toNat,x.2))=Z:=by
 unfold zB;rw[kz];conv=>rhs;rw[<-pT Z]
 exact kY λx _=>by simp
theorem ahE{Z:List fL}(hl:Z.length<=1000)(hz:∀x∈Z,(x.1<=2000/\x.2.length<=1000000)/\Br x.2)(hs:Z.Pairwise λx y=>x.1<y.1):jK (oN Z)=some Z:=by
 unfold oN;split
 ·rename_i h;rw[h];rfl
 ·rename_i hne;unfold jK;rw[if_neg,ahD hl λx hx=>by have:=hz x hx;exact⟨aa,aa⟩]
  ·simp only;rw[if_pos,aiO];refine⟨λq=>hne (by simpa [zB]using q),?_,?_⟩
   ·intro x hx;obtain⟨y,hy,rfl⟩:=cG.1 hx;have:=hz y hy;exact⟨⟨by dsimp only;omega,by dsimp only;omega⟩,this.2⟩
   ·rw[Ts];exact hs.imp λh=>by dsimp only;omega
  ·intro h;have:=congrArg List.length h;have:=pM (zz (Z.length:Int));simp only[bY,aq,aM,aI]at *;omega
theorem Vo{Z:List fL}(h:jK b=some Z):b=oN Z/\Z.length<=1000/\(∀x∈Z,x.1<=2000/\Br x.2)/\Z.Pairwise λx y=>x.1<y.1:=by
 unfold jK at h;split at h
 ·rename_i hb;cases h;exact⟨by rw[hb];rfl,ai,ai,List.Pairwise.nil⟩
 ·split at h
  ·cases h
  ·rename_i z hz;split at h
   ·rename_i hok;cases h;obtain⟨h1,h2⟩:=MO hz;obtain⟨hne,h3,h4⟩:=hok;refine⟨?_,by simpa using h2,?_,?_⟩
    ·unfold oN;rw[if_neg (by simpa using hne),h1];unfold bY;rw[bu,vN];congr 1;refine IX λx hx=>?_;have:=(h3 x hx).1;simp only[gm,q9 this.1]
    ·intro x hx;obtain⟨y,hy,rfl⟩:=cG.1 hx;have:=h3 y hy;exact⟨by dsimp only;omega,this.2⟩
    ·rw[Ts];refine List.Pairwise.imp_of_mem (λ{a b} ha gK hab=>?_) h4;have:=(h3 a ha).1;have:=(h3 b gK).1;dsimp only;omega
   ·cases h
theorem B3:∀ {L:BL} {i:Nat} {sp:Bool} {x:fL},x∈gR i sp L->i<=x.1/\x.1<i+L.length/\∃p∈L,p.1=x.2
 | [],i,sp,x,h=>by simp[gR]at h
 | p::L,i,sp,x,h=>by
  rw[gR]at h;rcases cq.1 h with h|h
  ·split at h
   ·simp at h
   ·simp only[cv]at h;subst h;exact⟨aK _,ai,p,ai,rfl⟩
  ·obtain⟨h1,h2,q,hq,h3⟩:=B3 h;exact⟨aa,by simp;omega,q,by simp[hq],h3⟩
theorem O1:∀(L:BL) (i:Nat) (sp:Bool),(gR i sp L).Pairwise λx y=>x.1<y.1
 | [],i,sp=>List.Pairwise.nil
 | p::L,i,sp=>by
  rw[gR];refine ue.2 ⟨by split<;>simp,O1 L _ _,λx hx y hy=>?_⟩;have:=(B3 hy).1;split at hx
  ·simp at hx
  ·simp only[cv]at hx;subst hx;dsimp only;omega
theorem O2:∀(L:BL) (i:Nat) (sp:Bool),(∀p∈L,p.2≠[])->(gR i sp L).length<=(jx L).length/\(sp=false->L≠[]->(gR i sp L).length+1<=(jx L).length)/\L.length<=(jx L).length
 | [],i,sp,_=>by simp[gR,jx]
 | p::L,i,sp,h=>by
  obtain⟨h1,_,h3⟩:=O2 L (i+1) (af p.2) λq hq=>h q (by simp[hq]);have h2:1<=p.2.length:=by
   have:=h p ai;cases hp:p.2 with
   | nil=>exact absurd hp this
   | cons c r=>simp
  rw[ET,gR];simp only[aq,av];refine⟨?_,λhsp _=>?_,aa⟩
  ·split<;>simp<;>omega
  ·split
   ·simp;omega
   ·rename_i hne;subst hsp;have:p.1.length≠0:=λe=>hne (by rw[bL e];rfl);simp;omega
theorem ML{t:Tok}(hv:fX v)(h:t∈fm v):∃c r,t=c::r/\cf c=false:=by
 induction hv with
 | num h1 =>
  rw[Hf]at h;simp only[cv]at h;subst h;obtain⟨c,r,hc,h2,_⟩:=abT _;exact⟨c,r,hc,h2⟩
 | iY x =>
  rw[DY]at h;simp only[cv]at h;subst h;exact⟨34,_,rfl,ag⟩
 | yj h1 ih =>
  rw[DZ]at h;rcases bB.1 h with rfl|h
  ·exact⟨91,[],rfl,ag⟩
  ·rcases cq.1 h with h|h
   ·unfold eP iT at h;obtain⟨p,hp,h⟩:=um.1 h;rcases cq.1 h with h|h
    ·split at h
     ·simp at h
     ·simp only[cv]at h;subst h;exact⟨44,[],rfl,ag⟩
    ·rw[if_neg (show ¬((3:Int)=4)by decide),aA]at h;refine ih p.1 ?_ h;obtain⟨i,hi⟩:=uh.1 hp;rw[Gl]at hi;obtain⟨x,hx,rfl⟩:=il.1 hi;exact fH hx
   ·simp only[cv]at h;subst h;exact⟨93,[],rfl,ag⟩
 | yH hs hl h1 ih =>
  rw[D0]at h;rcases bB.1 h with rfl|h
  ·exact⟨123,[],rfl,ag⟩
  ·rcases cq.1 h with h|h
   ·unfold eP iT at h;obtain⟨p,hp,h⟩:=um.1 h;obtain⟨i,hi⟩:=uh.1 hp;rw[Gl]at hi;obtain⟨x,hx,rfl⟩:=il.1 hi;rcases cq.1 h with h|h
    ·split at h
     ·simp at h
     ·simp only[cv]at h;subst h;exact⟨44,[],rfl,ag⟩
    ·rw[if_pos (by simp only[ar.kind])]at h;rcases cq.1 h with h|h
     ·rcases bB.1 h with rfl|h
      ·have hlt:=(cW.1 hx).1;simp only[ar.parts,ar.names,dU]at hlt |-;rw[<-hl]at hlt;rw[List.getD,List.getElem?_eq_getElem hlt,Option.getD_some];obtain⟨c,r,hc,h2,_⟩:=Dj (hs _ (List.getElem_mem hlt));exact⟨c,r,hc,R1 aa⟩
      ·simp only[cv]at h;subst h;exact⟨58,[],rfl,ag⟩
     ·exact ih x (fH hx) h
   ·simp only[cv]at h;subst h;exact⟨125,[],rfl,ag⟩
theorem Fit.ne{L:BL}(h:Fit l v L lb):∀p∈L,p.2≠[]:=by
 intro p hp;obtain⟨c,r,hc,_⟩:=ML h.wf (t:=p.2) (by rw[<-h.tk];exact cG.2 ⟨p,hp,rfl⟩);rw[hc];simp
theorem MK(v:ar):fm v≠[]:=by
 rw[Bf];split
 ·simp
 ·split<;>simp
theorem Fit.adj{L:BL}(h:Fit l v L lb):L≠[]:=by
 rintro rfl;exact MK v h.tk.symm
theorem Fit.bounds{L:BL}(h:Fit l v L lb)(hl:l.length<=1000):(pJ L lb).length<=1000/\L.length<=1000/\(∀x∈pJ L lb,(x.1<=2000/\x.2.length<=1000)/\Br x.2)/\(pJ L lb).Pairwise λx y=>x.1<y.1:=by
 obtain⟨h1,h2,h3⟩:=O2 L 0 false h.ne;have h2:=h2 rfl h.adj;have hlen:=congrArg List.length h.eq;rw[aq]at hlen;refine⟨?_,aa,?_,?_⟩
 ·rw[aq];split<;>simp<;>omega
 ·intro x hx;rcases cq.1 hx with hx|hx
  ·obtain⟨q1,q2,p,hp,q3⟩:=B3 hx;refine⟨⟨aa,?_⟩,by rw[<-q3];exact h.bk p hp⟩;rw[<-q3];have:p.1.length<=(jx L).length:=by
    obtain⟨A,B,hAB⟩:=List.append_of_mem hp;rw[hAB,PE,ET];simp only[aq];omega
   omega
  ·split at hx
   ·simp at hx
   ·simp only[cv]at hx;subst hx;exact⟨⟨by dsimp only;omega,by dsimp only;omega⟩,h.bl⟩
 ·refine ue.2 ⟨O1 L 0 false,by split<;>simp,λx hx y hy=>?_⟩;have:=(B3 hx).2.1;split at hy
  ·simp at hy
  ·simp only[cv]at hy;subst hy;dsimp only;omega
theorem PS(Z:List fL):∀(L:BL) (E:List fL) (i:Nat) (ls:Tok) (out:ad),(∀p∈L,p.2≠[])->(∀x∈E,i+L.length<=x.1)->(∀j,i<=j->iC Z j=iC (gR i (af ls) L++E) j) ->
  ∃FO,(L.map Prod.snd).foldl (gN Z) ⟨out,i,ls⟩=⟨out++jx L,i+L.length,FO⟩/\∀j,i+L.length<=j->iC Z j=iC E j
 | [],E,i,ls,out,_,_,h=>⟨ls,by simp[jx],λj hj=>by rw[h j hj];rfl⟩
 | p::L,E,i,ls,out,hne,hE,h=>by
  have nj:iC (gR (i+1) (af p.2) L++E) i=none:=by
   unfold iC;rw[List.find?_eq_none.2]
   ·rfl
   ·intro x hx;simp only[decide_eq_true_eq];rcases cq.1 hx with hx|hx
    ·have:=(B3 hx).1;omega
    ·have:=hE x hx;simp only[av]at this;omega
  have mD:gN Z ⟨out,i,ls⟩ p.2=⟨out++(p.1++p.2),i+1,p.2⟩:=by
   unfold gN;have h0:=h i (aK _);rw[gR]at h0;by_cases he:p.1=sZ (af ls)
   ·rw[if_pos he,aA,nj]at h0;simp only[h0];rw[if_neg (hne p ai),<-he,bJ]
   ·rw[if_neg he]at h0;have:iC ([(i,p.1)]++gR (i+1) (af p.2) L++E) i=some p.1:=by simp[iC]
    rw[this]at h0;simp only[h0,bJ]
  have hnext:∀j,i+1<=j->iC Z j=iC (gR (i+1) (af p.2) L++E) j:=by
   intro j hj;rw[h j aa,gR];split
   ·rfl
   ·unfold iC;rw[bJ,List.singleton_append,List.find?_cons_of_neg];simp only[decide_eq_true_eq];omega
  obtain⟨FO,h1,h2⟩:=PS Z L E (i+1) p.2 (out++(p.1++p.2)) (λq hq=>hne q (by simp[hq])) (λx hx=>by have:=hE x hx;simp only[av]at this;omega) hnext;refine⟨FO,?_,λj hj=>h2 j (by simp only[av]at hj;omega)⟩;rw[fq,List.foldl_cons,mD,h1,ET,av,show i+1+L.length=i+(L.length+1)by omega];simp[bJ]
theorem Fit.out{L:BL}(h:Fit l v L lb):rD v (pJ L lb)=l:=by
 unfold rD;rw[<-h.tk];obtain⟨FO,h1,h2⟩:=PS (pJ L lb) L (if lb=[10]then[]else[(L.length,lb)]) 0 [] [] h.ne (λx hx=>by
  split at hx
  ·simp at hx
  ·simp only[cv]at hx;subst hx;dsimp only;omega) (λj _=>rfl)
 rw[h1];unfold gN;simp only[dU,aA,cm]at h2 |-;rw[h2 _ (aK _),h.eq];by_cases hb:lb=[10]
 ·rw[if_pos hb];simp[iC,hb]
 ·rw[if_neg hb];simp[iC]
theorem Vp(h:gO l=some (v,r)):∃L lb,Fit l v L lb/\r=oN (pJ L lb)/\(bI v).1=0:=by
 unfold gO at h;split at h
 ·cases h
 ·rename_i v' o hr;split at h
  ·rename_i hv;cases h;obtain⟨L,lb,h1,rfl⟩:=Vm hr;exact⟨L,lb,h1,rfl,hv⟩
  ·cases h
theorem ahF(hl:l.length<=1000)(h:gO l=some (v,r)):l4 v r=some l/\∃Z,jK r=some Z/\(Z=[]↔r=[])/\Z.length<=1000/\r.length<=100000000:=by
 obtain⟨L,lb,h1,rfl,hv⟩:=Vp h;obtain⟨q1,q2,q3,q4⟩:=h1.bounds hl;have bF:=ahE q1 (λx hx=>by have:=q3 x hx;exact⟨⟨this.1.1,aa⟩,this.2⟩) q4;refine⟨?_,_,bF,?_,q1,?_⟩
 ·unfold l4;rw[bF];simp only;rw[h1.out,if_pos ⟨hl,h⟩]
 ·constructor
  ·intro e;rw[e];rfl
  ·intro e;rw[e]at bF;exact(kX bF).symm
 ·unfold oN;split
  ·simp
  ·have hm:=vI (f:=gm) (m:=2000) (l:=pJ L lb) aa (λx hx=>by
    have:=(q3 x hx).1;have a1:=fj (n:=(x.1:Int)) aa aa;have a2:=yz (b:=x.2) aa;simp only[gm,aq];omega)
   have:(pJ L lb).length*2000<=1000*2000:=Nat.mul_le_mul_right _ q1;omega
abbrev fQ(t:List Tok):Nat:=(t.map List.length).sum
theorem C9(a b:List Tok):fQ (a++b)=fQ a+fQ b:=by simp[fQ]
theorem RM(hv:fX v):1<=fQ (fm v):=by
 cases h:fm v with
 | nil=>exact absurd h (MK v)
 | cons t r =>
  obtain⟨c,x,hc,_⟩:=ML hv (t:=t) (by rw[h];simp);simp[fQ,hc];omega
theorem Kz(k:Int)(s:bg):∀(ps:List ar) (i:Nat),(∀p∈ps,fX p)->ps.length<=fQ (oL k s i ps)/\∀p∈ps,fQ (fm p)<=fQ (oL k s i ps)
 | [],i,_=>by simp
 | p::ps,i,h=>by
  obtain⟨h1,h2⟩:=Kz k s ps (i+1) λq hq=>h q (by simp[hq]);have h3:=RM (h p ai);have h4:fQ (fm p)<=fQ (iT k s i p):=by
   unfold iT;rw[C9,C9];omega
  rw[MJ,C9];refine⟨by simp only[av];omega,λq hq=>?_⟩;rcases bB.1 hq with rfl|hq
  ·omega
  ·have:=h2 q hq;omega
theorem aii(hv:fX v){N:Nat}(h32:32<=N)(hN:fQ (fm v)<=N):VB N v:=by
 induction hv with
 | num h=>exact Bl h
 | iY b =>
  rw[DY]at hN;refine wF ?_;have:b.length<=(jH b).length:=by
   unfold jH;clear hN;induction b with
   | nil=>simp
   | cons c b ih =>
    obtain⟨x,r,hx,_⟩:=aeR c;rw[bz,aq,hx];simp only[av];omega
  simp[fQ,pY]at hN;omega
 | @yj ps h ih =>
  rw[DZ]at hN;have e:fQ (pI 3::(eP 3 [] ps++[qu 3]))=1+fQ (oL 3 [] 0 ps)+1:=by simp[fQ,eP,oL];omega
  rw[e]at hN;obtain⟨h1,h2⟩:=Kz 3 [] ps 0 h;exact .mk (j1 3) (j1 0) (cu _) (cu _) ai (by simp only[ar.parts];omega) λp hp=>ih p hp (by have:=h2 p hp;omega)
 | @yH s ps hs hl h ih =>
  rw[D0]at hN;have e:fQ (pI 4::(eP 4 s ps++[qu 4]))=1+fQ (oL 4 s 0 ps)+1:=by simp[fQ,eP,oL];omega
  rw[e]at hN;obtain⟨h1,h2⟩:=Kz 4 s ps 0 h;exact .mk (j1 4) (j1 0) (cu _) (by simp only[ar.names];omega) (λx hx=>by have:=Dk (hs x hx);omega) (by simp only[ar.parts];omega) λp hp=>ih p hp (by have:=h2 p hp;omega)
theorem PF(L:BL):fQ (L.map Prod.snd)<=(jx L).length:=by
 induction L with
 | nil=>exact aK _
 | cons p L ih =>
  rw[ET];simp only[fQ,fq,pR,aq]at ih |-;omega
theorem Fit.vb{L:BL}(h:Fit l v L lb)(hl:l.length<=1048576):VB 1048576 v:=by
 refine aii h.wf ag ?_;have h1:=PF L;have h2:=congrArg List.length h.eq;rw[aq]at h2;rw[<-h.tk];omega
theorem MP(hl:b.length<=1000)(h:gO b=some (v,r)):VB 1048576 v/\(bI v).1=0/\(Bg v).isSome=true/\l4 v r=some b/\r.length<=100000000/\∃ls,Vn r=some ls/\ls.length<=4/\(ls=[]↔r=[]):=by
 obtain⟨L,lb,h1,rfl,hv⟩:=Vp h;obtain⟨bW,Z,hZ,hZ0,hZ1,hr⟩:=ahF hl h;refine⟨h1.vb aa,hv,rfl,bW,hr,_,by unfold Vn;rw[hZ],?_,?_⟩
 ·split<;>simp
 ·rw[<-hZ0];constructor
  ·intro e;split at e
   ·rename_i h0;exact bL h0
   ·cases e
  ·intro e;rw[e];rfl
def dX(c:Nat):Prop:=c<55296\/(57343<c/\c<1114112)
instance(c:Nat):Decidable (dX c):=by unfold dX;infer_instance
def bM(c:Nat):ad :=
 if c<128 then[UInt8.ofNat c]else if c<2048 then[UInt8.ofNat (192+c/64),UInt8.ofNat (128+c%64)]
 else if c<65536 then[UInt8.ofNat (224+c/4096),UInt8.ofNat (128+c/64%64),UInt8.ofNat (128+c%64)]
 else[UInt8.ofNat (240+c/262144),UInt8.ofNat (128+c/4096%64),UInt8.ofNat (128+c/64%64),UInt8.ofNat (128+c%64)]
def jM(c:Nat):Nat:=if c<128 then 1 else if c<2048 then 2 else if c<65536 then 3 else 4
theorem yY(c:Nat):(bM c).length=jM c:=by
 unfold bM jM;split
 ·rfl
 ·split
  ·rfl
  ·split<;>rfl
theorem qd(c:Nat):1<=jM c/\jM c<=4:=by
 unfold jM;split
 ·omega
 ·split
  ·omega
  ·split<;>omega
def iH(a:Nat):Nat:=if a<128 then 1 else if a<192 then 0 else if a<224 then 2 else if a<240 then 3 else 4
def mv(a:Nat):Nat:=if a<128 then a else if a<192 then 0 else if a<224 then a-192 else if a<240 then a-224 else a-240
def zt(l:ad)(c0:Nat):Nat->Nat
 | 0=>c0
 | k+1=>64*zt l c0 k+(at8 l (k+1)-128)
theorem Nv(l:ad)(c:Nat):zt l c 0=c:=rfl
theorem HM(l:ad)(c:Nat):zt l c 1=64*c+(at8 l 1-128):=rfl
theorem kG(l:ad)(c:Nat):zt l c 2=64*(64*c+(at8 l 1-128))+(at8 l 2-128):=rfl
theorem HN(l:ad)(c:Nat):zt l c 3=64*(64*(64*c+(at8 l 1-128))+(at8 l 2-128))+(at8 l 3-128):=rfl
abbrev ir(l:ad)(i:Nat):Prop:=128<=at8 l i/\at8 l i<192
structure Bs(l:ad)(c n:Nat):Prop where
 pos:0<n
 le:n<=l.length
 tl:∀j,j<n->0<j->ir l j
 ch:dX c
 sh:jM c=n
instance(l:ad)(c n:Nat):Decidable (Bs l c n):=decidable_of_iff (0<n/\n<=l.length/\(∀j,j<n->0<j->ir l j)/\dX c/\jM c=n) ⟨λ⟨a,b,c,d,e⟩=>⟨a,b,c,d,e⟩,λ⟨a,b,c,d,e⟩=>⟨a,b,c,d,e⟩⟩
def j5(l:ad):Nat:=zt l (mv (at8 l 0)) (iH (at8 l 0)-1)
def o9(l:ad):Option (Nat×Nat):=if Bs l (j5 l) (iH (at8 l 0))then some (j5 l,iH (at8 l 0))else none
theorem nP{a:UInt8}(h:n=a.toNat):UInt8.ofNat n=a:=by rw[h];exact A2
theorem zJ{α:Type}{l:List α}(h:1<=l.length):∃a r,l=a::r:=by
 cases l with
 | nil=>simp at h
 | cons a r=>exact⟨a,r,rfl⟩
theorem zD{c:Nat}(h:o9 l=some (c,n)):dX c/\jM c=n/\n<=l.length/\l.take n=bM c:=by
 unfold o9 at h;split at h;rotate_left
 ·cases h
 rename_i hk;simp only[kv,Prod.mk.injEq]at h;obtain⟨h1,h2⟩:=h;rw[h1,h2]at hk;obtain⟨p0,p1,p2,p3,p4⟩:=hk;refine⟨p3,p4,p1,?_⟩;unfold j5 at h1;rw[h2]at h1;unfold jM at p4;match l,p1 with
 | [],p1=>rw[aI]at p1;omega
 | a::r,p1 =>
  have ha:=a.toNat_lt;have e0:at8 (a::r) 0=a.toNat:=rfl;rw[e0]at h1 h2;have hn:n=1\/n=2\/n=3\/n=4:=by unfold iH at h2;split at h2<;>(try split at h2)<;>(try split at h2)<;>(try split at h2)<;>omega
  rcases hn with rfl|rfl|rfl|rfl
  ·rw[Nv]at h1;unfold iH at h2;unfold mv at h1;unfold bM;have:a.toNat<128:=by
    split at h2
    ·assumption
    ·split at h2
     ·omega
     ·split at h2
      ·omega
      ·split at h2<;>omega
   rw[if_pos this]at h1;rw[if_pos aa];show[a]=_;rw[nP h1.symm]
  ·obtain⟨b,r,rfl⟩:=zJ (show 1<=r.length by rw[av]at p1;omega)
   ·have hb:=b.toNat_lt;obtain⟨t1,t2⟩:=p2 1 ag ag;have e1:at8 (a::b::r) 1=b.toNat:=rfl;rw[e1]at t1 t2;rw[show 2-1=1 from rfl,HM,e1]at h1;have hh:192<=a.toNat/\a.toNat<224:=by
     unfold iH at h2;split at h2
     ·omega
     ·split at h2
      ·omega
      ·split at h2
       ·omega
       ·split at h2<;>omega
    unfold mv at h1;rw[if_neg aa,if_neg aa,if_pos aa]at h1;have hc:128<=c/\c<2048:=by
     split at p4
     ·omega
     ·split at p4
      ·omega
      ·split at p4<;>omega
    unfold bM;rw[if_neg aa,if_pos aa,nP (a:=a) aa,nP (a:=b) aa];rfl
  ·obtain⟨b,r,rfl⟩:=zJ (show 1<=r.length by rw[av]at p1;omega);obtain⟨d,r,rfl⟩:=zJ (show 1<=r.length by rw[av,av]at p1;omega)
   ·have hb:=b.toNat_lt;obtain⟨t1,t2⟩:=p2 1 ag ag;obtain⟨t3,t4⟩:=p2 2 ag ag;have e1:at8 (a::b::d::r) 1=b.toNat:=rfl;have e2:at8 (a::b::d::r) 2=d.toNat:=rfl;rw[e1]at t1 t2;rw[e2]at t3 t4;rw[show 3-1=2 from rfl,kG,e1,e2]at h1;have hh:224<=a.toNat/\a.toNat<240:=by
     unfold iH at h2;split at h2
     ·omega
     ·split at h2
      ·omega
      ·split at h2
       ·omega
       ·split at h2<;>omega
    unfold mv at h1;rw[if_neg aa,if_neg aa,if_neg aa,if_pos aa]at h1;have hc:2048<=c/\c<65536:=by
     split at p4
     ·omega
     ·split at p4
      ·omega
      ·split at p4<;>omega
    unfold bM;rw[if_neg aa,if_neg aa,if_pos aa,nP (a:=a) aa,nP (a:=b) aa,nP (a:=d) aa];rfl
  ·obtain⟨b,r,rfl⟩:=zJ (show 1<=r.length by rw[av]at p1;omega);obtain⟨d,r,rfl⟩:=zJ (show 1<=r.length by rw[av,av]at p1;omega);obtain⟨e,r,rfl⟩:=zJ (show 1<=r.length by rw[av,av,av]at p1;omega)
   ·obtain⟨t1,t2⟩:=p2 1 ag ag;obtain⟨t3,t4⟩:=p2 2 ag ag;obtain⟨t5,t6⟩:=p2 3 ag ag;have e1:at8 (a::b::d::e::r) 1=b.toNat:=rfl;have e2:at8 (a::b::d::e::r) 2=d.toNat:=rfl;have e3:at8 (a::b::d::e::r) 3=e.toNat:=rfl;rw[e1]at t1 t2;rw[e2]at t3 t4;rw[e3]at t5 t6;rw[show 4-1=3 from rfl,HN,e1,e2,e3]at h1;have hh:240<=a.toNat:=by
     unfold iH at h2;split at h2
     ·omega
     ·split at h2
      ·omega
      ·split at h2
       ·omega
       ·split at h2<;>omega
    unfold mv at h1;rw[if_neg aa,if_neg aa,if_neg aa,if_neg aa]at h1;have hc:65536<=c:=by
     split at p4
     ·omega
     ·split at p4
      ·omega
      ·split at p4<;>omega
    unfold dX at p3;unfold bM;rw[if_neg aa,if_neg aa,if_neg aa,nP (a:=a) aa,nP (a:=b) aa,nP (a:=d) aa,nP (a:=e) aa];rfl
theorem H7{c:Nat}(r:ad)(h:dX c):o9 (bM c++r)=some (c,jM c):=by
 have key:j5 (bM c++r)=c/\iH (at8 (bM c++r) 0)=jM c/\∀j,j<jM c->0<j->ir (bM c++r) j:=by
  unfold dX at h;unfold bM jM j5;split
  ·rename_i h1;have e0:at8 ([UInt8.ofNat c]++r) 0=c:=cH aa;have w:iH c=1:=by unfold iH;rw[if_pos h1]
   rw[e0,w];refine⟨?_,rfl,λj hj iB=>by omega⟩;rw[show 1-1=0 from rfl,Nv];unfold mv;rw[if_pos h1]
  ·split
   ·rename_i h1 h2;have e0:at8 ([UInt8.ofNat (192+c/64),UInt8.ofNat (128+c%64)]++r) 0=192+c/64:=cH aa;have e1:at8 ([UInt8.ofNat (192+c/64),UInt8.ofNat (128+c%64)]++r) 1=128+c%64:=cH aa;have w:iH (192+c/64)=2:=by unfold iH;rw[if_neg aa,if_neg aa,if_pos aa]
    rw[e0,w];refine⟨?_,rfl,λj hj iB=>?_⟩
    ·rw[show 2-1=1 from rfl,HM,e1];unfold mv;rw[if_neg aa,if_neg aa,if_pos aa];omega
    ·obtain rfl:j=1:=aa;unfold ir;rw[e1];omega
   ·split
    ·rename_i h1 h2 h3;have e0:at8 ([UInt8.ofNat (224+c/4096),UInt8.ofNat (128+c/64%64),UInt8.ofNat (128+c%64)]++r) 0=224+c/4096:=cH aa;have e1:at8 ([UInt8.ofNat (224+c/4096),UInt8.ofNat (128+c/64%64),UInt8.ofNat (128+c%64)]++r) 1=128+c/64%64:=cH aa;have e2:at8 ([UInt8.ofNat (224+c/4096),UInt8.ofNat (128+c/64%64),UInt8.ofNat (128+c%64)]++r) 2=128+c%64:=cH aa;have w:iH (224+c/4096)=3:=by unfold iH;rw[if_neg aa,if_neg aa,if_neg aa,if_pos aa]
     rw[e0,w];refine⟨?_,rfl,λj hj iB=>?_⟩
     ·rw[show 3-1=2 from rfl,kG,e1,e2];unfold mv;rw[if_neg aa,if_neg aa,if_neg aa,if_pos aa];omega
     ·obtain rfl|rfl:j=1\/j=2:=aa
      ·unfold ir;rw[e1];omega
      ·unfold ir;rw[e2];omega
    ·rename_i h1 h2 h3;have e0:at8 ([UInt8.ofNat (240+c/262144),UInt8.ofNat (128+c/4096%64),UInt8.ofNat (128+c/64%64),UInt8.ofNat (128+c%64)]++r) 0=240+c/262144:=cH aa;have e1:at8 ([UInt8.ofNat (240+c/262144),UInt8.ofNat (128+c/4096%64),UInt8.ofNat (128+c/64%64),UInt8.ofNat (128+c%64)]++r) 1=128+c/4096%64:=cH aa;have e2:at8 ([UInt8.ofNat (240+c/262144),UInt8.ofNat (128+c/4096%64),UInt8.ofNat (128+c/64%64),UInt8.ofNat (128+c%64)]++r) 2=128+c/64%64:=cH aa;have e3:at8 ([UInt8.ofNat (240+c/262144),UInt8.ofNat (128+c/4096%64),UInt8.ofNat (128+c/64%64),UInt8.ofNat (128+c%64)]++r) 3=128+c%64:=cH aa;have w:iH (240+c/262144)=4:=by unfold iH;rw[if_neg aa,if_neg aa,if_neg aa,if_neg aa]
     rw[e0,w];refine⟨?_,rfl,λj hj iB=>?_⟩
     ·rw[show 4-1=3 from rfl,HN,e1,e2,e3];unfold mv;rw[if_neg aa,if_neg aa,if_neg aa,if_neg aa];omega
     ·obtain rfl|rfl|rfl:j=1\/j=2\/j=3:=aa
      ·unfold ir;rw[e1];omega
      ·unfold ir;rw[e2];omega
      ·unfold ir;rw[e3];omega
 obtain⟨k1,k2,k3⟩:=key;unfold o9;rw[k1,k2,if_pos ⟨by have:=qd c;omega,by rw[aq,yY];omega,k3,h,rfl⟩]
def uT:Nat->ad->Option au
 | 0,l=>if l=[]then some []else none
 | k+1,l=>if l=[]then some []else match o9 l with
  | none=>none
  | some (c,n)=>(uT k (l.drop n)).map (c::·)
def chars(l:ad):Option au:=uT l.length l
theorem NT:∀(n m:Nat) (l:ad),l.length<=n->l.length<=m->uT n l=uT m l
 | 0,m,l,h1,h2=>by
  have:l=[]:=bL aa;subst this;cases m<;>simp[uT]
 | n+1,0,l,h1,h2=>by
  have:l=[]:=bL aa;subst this;simp[uT]
 | n+1,m+1,l,h1,h2=>by
  simp only[uT];split
  ·rfl
  ·split
   ·rfl
   ·rename_i c k hk;obtain⟨_,q1,q2,_⟩:=zD hk;have:=qd c;rw[NT n m _ (by rw[bd];omega) (by rw[bd];omega)]
theorem NU:chars []=some []:=rfl
theorem Ey(h:l≠[]):chars l=match o9 l with
  | none=>none
  | some (c,n)=>(chars (l.drop n)).map (c::·):=by
 have hp:=jF.2 h;unfold chars;obtain⟨k,hk⟩:∃k,l.length=k+1:=⟨l.length-1,aa⟩
 rw[hk,uT,if_neg h];split
 ·rfl
 ·rename_i c n e;obtain⟨_,q1,q2,_⟩:=zD e;have:=qd c;rw[NT k (l.drop n).length _ (by rw[bd];omega) (aK _)]
theorem Ex:∀(cs:au),(∀c∈cs,dX c)->chars (cs.flatMap bM)=some cs
 | [],_=>rfl
 | c::cs,h=>by
  have hc:=yY c;have:=qd c;rw[bz,Ey,H7 _ (h c ai)]
  ·simp only;rw[List.drop_left' hc,Ex cs λx hx=>h x (by simp[hx])];rfl
  ·intro e;have:=congrArg List.length e;rw[aq,hc,aI]at this;omega
theorem NV:∀(n:Nat) {l:ad} {cs:au},l.length<=n->chars l=some cs->(∀c∈cs,dX c)/\cs.flatMap bM=l
 | 0,l,cs,hl,h=>by
  have:l=[]:=bL aa;subst this;cases h;simp
 | n+1,l,cs,hl,h=>by
  by_cases hn:l=[]
  ·subst hn;cases h;simp
  rw[Ey hn]at h;split at h
  ·cases h
  ·rename_i c k e;obtain⟨q1,q2,q3,q4⟩:=zD e;have:=qd c;cases hr:chars (l.drop k)with
   | none=>rw[hr]at h;cases h
   | some r =>
    rw[hr]at h;cases h;obtain⟨a1,a2⟩:=NV n (by rw[bd];omega) hr;refine⟨λx hx=>?_,?_⟩
    ·rcases bB.1 hx with rfl|hx
     ·exact q1
     ·exact a1 x hx
    ·rw[bz,a2,<-q4,eN]
theorem Ia :chars l=some cs↔(∀c∈cs,dX c)/\cs.flatMap bM=l:=by
 constructor
 ·exact NV _ (aK _)
 ·rintro⟨h1,h2⟩;rw[<-h2];exact Ex cs h1
def fB(c:Nat):au:=if c<65536 then[c]else[55296+(c-65536)/1024,56320+(c-65536)%1024]
abbrev iP(u:Nat):Prop:=56320<=u/\u<57344
abbrev iO(u:Nat):Prop:=55296<=u/\u<56320
def fo:au->Option au
 | []=>some []
 | [u]=>if iP u then none else if iO u then none else some [u]
 | u::v::r=>if iP u then none else if iO u then(if iP v then(fo r).map ((65536+1024*(u-55296)+(v-56320))::·)else none)else(fo (v::r)).map (u::·)
theorem MY(h:iP u)(r:au):fo (u::r)=none:=by
 cases r<;>simp only[fo]<;>rw[if_pos h]
theorem M0{v:Nat}(h:iO u)(hv:iP v)(r:au):fo (u::v::r)=(fo r).map ((65536+1024*(u-55296)+(v-56320))::·):=by
 rw[fo,if_neg (by unfold iP iO at *;omega),if_pos h,if_pos hv]
theorem D3(h:iO u)(r:au)(hr:∀v k,r=v::k->¬iP v):fo (u::r)=none:=by
 have h1:¬iP u:=by unfold iP iO at *;omega
 cases r with
 | nil=>simp only[fo];rw[if_neg h1,if_pos h]
 | cons v r=>simp only[fo];rw[if_neg h1,if_pos h,if_neg (hr v r rfl)]
theorem MZ(h1:¬iP u)(h2:¬iO u)(r:au):fo (u::r)=(fo r).map (u::·):=by
 cases r with
 | nil=>simp only[fo];rw[if_neg h1,if_neg h2];rfl
 | cons v r=>simp only[fo];rw[if_neg h1,if_neg h2]
theorem M1:∀(n:Nat) {us cs:au},us.length<=n->(∀u∈us,u<65536)->fo us=some cs->(∀c∈cs,dX c)/\cs.flatMap fB=us
 | 0,us,cs,hn,hu,h=>by
  have:us=[]:=bL aa;subst this;cases h;simp
 | n+1,[],cs,hn,hu,h=>by cases h;simp
 | n+1,u::r,cs,hn,hu,h=>by
  have hu0:=hu u ai;have hur:∀x∈r,x<65536:=λx hx=>hu x (by simp[hx]);by_cases h1:iP u
  ·rw[MY h1]at h;cases h
  by_cases h2:iO u
  ·match r,h with
   | [],h=>rw[D3 h2 [] ai]at h;cases h
   | v::r,h =>
    by_cases h3:iP v;rotate_left
    ·rw[D3 h2 (v::r) (λa k e=>by cases e;exact h3)]at h;cases h
    rw[M0 h2 h3]at h;cases hr:fo r with
    | none=>rw[hr]at h;cases h
    | some k =>
     rw[hr]at h;cases h;obtain⟨a1,a2⟩:=M1 n (by simp only[av]at hn;omega) (λx hx=>hur x (by simp[hx])) hr;unfold iP iO at *;obtain⟨c,hc⟩:∃c,c=65536+1024*(u-55296)+(v-56320):=⟨_,rfl⟩
     rw[<-hc];refine⟨λx hx=>?_,?_⟩
     ·rcases bB.1 hx with hx|hx
      ·rw[hx];unfold dX;omega
      ·exact a1 x hx
     ·rw[bz,a2];unfold fB;rw[if_neg aa,show 55296+(c-65536)/1024=u by omega,show 56320+(c-65536)%1024=v by omega];rfl
  ·rw[MZ h1 h2]at h;cases hr:fo r with
   | none=>rw[hr]at h;cases h
   | some k =>
    rw[hr]at h;cases h;obtain⟨a1,a2⟩:=M1 n (by simp only[av]at hn;omega) hur hr;unfold iP iO at *;refine⟨λx hx=>?_,?_⟩
    ·rcases bB.1 hx with rfl|hx
     ·unfold dX;omega
     ·exact a1 x hx
    ·rw[bz,a2];unfold fB;rw[if_pos aa];rfl
def Bi(big:Bool)(l:ad)(k:Nat):Nat:=if big=true then 256*at8 l (2*k)+at8 l (2*k+1)else 256*at8 l (2*k+1)+at8 l (2*k)
def iV(big:Bool)(l:ad):au:=(List.range (l.length/2)).map (Bi big l)
theorem VI(big:Bool)(l:ad)(k:Nat):Bi big l k<65536:=by
 have h1:at8 l (2*k)<256:=dY _;have h2:at8 l (2*k+1)<256:=dY _;unfold Bi;split<;>omega
def cO(big:Bool)(u:Nat):ad:=if big=true then[UInt8.ofNat (u/256),UInt8.ofNat (u%256)]else[UInt8.ofNat (u%256),UInt8.ofNat (u/256)]
theorem uE(big:Bool)(u:Nat):(cO big u).length=2:=by unfold cO;split<;>rfl
theorem ah4(big:Bool)(a b:UInt8)(l:ad):iV big (a::b::l)=(if big=true then 256*a.toNat+b.toNat else 256*b.toNat+a.toNat)::iV big l:=by
 unfold iV;rw[show(a::b::l).length/2=l.length/2+1 by simp only[av];omega,List.range_succ_eq_map,fq,kz];congr 1
theorem VJ(big:Bool):∀(n:Nat) {l:ad},l.length=2*n->(iV big l).flatMap (cO big)=l
 | 0,l,h=>by
  have:l=[]:=bL aa;subst this;rfl
 | n+1,[],h=>by simp only[aI]at h;omega
 | n+1,[_],h=>by simp only[av,aI]at h;omega
 | n+1,a::b::l,h=>by
  have ha:=a.toNat_lt;have hb:=b.toNat_lt;rw[ah4,bz,VJ big n (by simp only[av]at h;omega)];cases big
  ·simp only[Bool.false_eq_true,if_false,cO];rw[nP (a:=a) aa,nP (a:=b) aa];rfl
  ·simp only[if_true,cO];rw[nP (a:=a) aa,nP (a:=b) aa];rfl
abbrev nt:ad:=[239,187,191]
def l5(big:Bool)(b:ad):Option au:=if 2<=b.length/\b.length%2=0/\b.take 2=(if big=true then[254,255]else[255,254])then fo (iV big (b.drop 2))else none
def ES(b:ad):au×Nat:=match chars b with
 | some cs=>if cs.head?=some 65279 then(cs.tail,1)else(cs,0)
 | none=>(b.map UInt8.toNat,4)
def jw(b:ad):au×Nat:=match l5 true b with
 | some cs=>(cs,2)
 | none=>match l5 false b with
  | some cs=>(cs,3)
  | none=>ES b
def lB(e:Nat)(cs:au):fx :=
 if e=0 then some (cs.flatMap bM)else if e=1 then some (nt++cs.flatMap bM)
 else if e=2 then some ([254,255]++(cs.flatMap fB).flatMap (cO true))else if e=3 then some ([255,254]++(cs.flatMap fB).flatMap (cO false))
 else if ∀c∈cs,c<256 then some (cs.map UInt8.ofNat)else none
theorem VA{big:Bool}(h:l5 big b=some cs):(∀c∈cs,dX c)/\b=(if big=true then[254,255]else[255,254])++(cs.flatMap fB).flatMap (cO big):=by
 unfold l5 at h;by_cases hk:2<=b.length/\b.length%2=0/\b.take 2=(if big=true then[254,255]else[255,254])
 rotate_left
 ·rw[if_neg hk]at h;cases h
 rw[if_pos hk]at h;obtain⟨h1,h2,h3⟩:=hk;obtain⟨a1,a2⟩:=M1 _ (aK _) (λu hu=>by
  obtain⟨k,_,rfl⟩:=cG.1 hu;exact VI _ _ _) h
 refine⟨a1,?_⟩;rw[a2,VJ big ((b.length-2)/2) (by rw[bd];omega),<-h3,eN]
theorem Py(b:ad):lB (jw b).2 (jw b).1=some b/\(jw b).2<5/\(∀c∈(jw b).1,dX c):=by
 unfold jw;split
 ·rename_i cs h;obtain⟨h1,h2⟩:=VA h;refine⟨?_,show _<5 by simp only;omega,h1⟩;rw[h2];rfl
 ·split
  ·rename_i cs h;obtain⟨h1,h2⟩:=VA h;refine⟨?_,show _<5 by simp only;omega,h1⟩;rw[h2];rfl
  ·unfold ES;split
   ·rename_i cs h;obtain⟨h1,h2⟩:=Ia.1 h;split
    ·rename_i hh;obtain⟨cs,rfl⟩:∃r,cs=65279::r:=by
      cases cs with
      | nil=>cases hh
      | cons c r=>cases hh;exact⟨r,rfl⟩
     refine⟨?_,show _<5 by simp only;omega,λc hc=>h1 c (by simp only[mJ]at hc;simp[hc])⟩;rw[<-h2];rfl
    ·refine⟨?_,show _<5 by simp only;omega,h1⟩;rw[<-h2];rfl
   ·refine⟨?_,show _<5 by simp only;omega,λc hc=>?_⟩
    ·unfold lB;rw[if_neg (show ¬(4=0)by decide),if_neg (show ¬(4=1)by decide),if_neg (show ¬(4=2)by decide),if_neg (show ¬(4=3)by decide),if_pos]
     ·rw[kz];congr 1;conv=>rhs;rw[<-pT b]
      refine kY λx _=>?_;exact A2
     ·intro c hc;obtain⟨x,_,rfl⟩:=cG.1 hc;exact x.toNat_lt
    ·obtain⟨x,_,rfl⟩:=cG.1 hc;have:=x.toNat_lt;unfold dX;omega
def lines:au->au×au
 | []=>([],[])
 | [c]=>if c=10 then([10],[0])else if c=13 then([10],[2])else([c],[])
 | c::d::r=>if c=13/\d=10 then(10::(lines r).1,1::(lines r).2)
  else if c=10 then(10::(lines (d::r)).1,0::(lines (d::r)).2)else if c=13 then(10::(lines (d::r)).1,2::(lines (d::r)).2)else(c::(lines (d::r)).1,(lines (d::r)).2)
theorem FJ(r:au):lines (13::10::r)=(10::(lines r).1,1::(lines r).2):=by simp only[lines];rw[if_pos ⟨trivial,trivial⟩]
theorem FK(r:au):lines (10::r)=(10::(lines r).1,0::(lines r).2):=by
 cases r with
 | nil=>rfl
 | cons d r=>simp only[lines];rw[if_neg aa,if_pos trivial]
theorem Da{r:au}(h:∀k,r≠10::k):lines (13::r)=(10::(lines r).1,2::(lines r).2):=by
 cases r with
 | nil=>rfl
 | cons d r=>simp only[lines];rw[if_neg (λe=>h r (by rw[e.2])),if_neg ag,if_pos trivial]
theorem FL{c:Nat}(h1:c≠10)(h2:c≠13)(r:au):lines (c::r)=(c::(lines r).1,(lines r).2):=by
 cases r with
 | nil=>simp only[lines];rw[if_neg h1,if_neg h2]
 | cons d r=>simp only[lines];rw[if_neg (λe=>h2 e.1),if_neg h1,if_neg h2]
def B6(k:Nat):au:=if k=0 then[10]else if k=1 then[13,10]else[13]
def gP:au->au->Option au
 | [],[]=>some []
 | [],_::_=>none
 | c::r,ks=>if c=10 then(match ks with
   | []=>none
   | k::ks=>(gP r ks).map (B6 k++·))else(gP r ks).map (c::·)
theorem FI:∀(n:Nat) (l:au),l.length<=n->gP (lines l).1 (lines l).2=some l/\(∀k∈(lines l).2,k<3)/\(lines l).2.length<=l.length/\(lines l).1.length<=l.length/\(∀c∈(lines l).1,c=10\/c∈l)
 | 0,l,h=>by
  have:l=[]:=bL aa;subst this;exact⟨rfl,by simp[lines],aK _,aK _,by simp[lines]⟩
 | n+1,[],h=>⟨rfl,by simp[lines],aK _,aK _,by simp[lines]⟩
 | n+1,c::r,h=>by
  have hr:r.length<=n:=by simpa using h
  obtain⟨a1,a2,a3,a4,a5⟩:=FI n r hr;by_cases h1:c=10
  ·subst h1;rw[FK];refine⟨?_,?_,by simp only[av];omega,by simp only[av];omega,?_⟩
   ·simp only[gP,if_true,a1];rfl
   ·intro k hk;rcases bB.1 hk with rfl|hk
    ·decide
    ·exact a2 k hk
   ·intro c hc;rcases bB.1 hc with rfl|hc
    ·exact .inl rfl
    ·rcases a5 c hc with h|h
     ·exact .inl h
     ·exact .inr (by simp[h])
  by_cases h2:c=13
  ·subst h2;by_cases h3:∃k,r=10::k
   ·obtain⟨r,rfl⟩:=h3;obtain⟨a1,a2,a3,a4,a5⟩:=FI n r (by simp at hr;omega);rw[FJ];refine⟨?_,?_,by simp only[av];omega,by simp only[av];omega,?_⟩
    ·simp only[gP,if_true,a1];rfl
    ·intro k hk;rcases bB.1 hk with rfl|hk
     ·decide
     ·exact a2 k hk
    ·intro c hc;rcases bB.1 hc with rfl|hc
     ·exact .inl rfl
     ·rcases a5 c hc with h|h
      ·exact .inl h
      ·exact .inr (by simp[h])
   ·rw[Da (λk e=>h3 ⟨k,e⟩)];refine⟨?_,?_,by simp only[av];omega,by simp only[av];omega,?_⟩
    ·simp only[gP,if_true,a1];rfl
    ·intro k hk;rcases bB.1 hk with rfl|hk
     ·decide
     ·exact a2 k hk
    ·intro c hc;rcases bB.1 hc with rfl|hc
     ·exact .inl rfl
     ·rcases a5 c hc with h|h
      ·exact .inl h
      ·exact .inr (by simp[h])
  ·rw[FL h1 h2];refine⟨?_,a2,by simp only[av];omega,by simp only[av];omega,?_⟩
   ·simp only[gP,a1];rw[if_neg h1];rfl
   ·intro x hx;rcases bB.1 hx with rfl|hx
    ·exact .inr ai
    ·rcases a5 x hx with h|h
     ·exact .inl h
     ·exact .inr (by simp[h])
theorem KB:∀(n:Nat) (l:au),l.length<=n->(∀k∈(lines l).2,k=0)->(lines l).1=l
 | 0,l,h,_=>by
  have:l=[]:=bL aa;subst this;rfl
 | n+1,[],h,_=>rfl
 | n+1,c::r,h,hk=>by
  have hr:r.length<=n:=by simpa using h
  by_cases h1:c=10
  ·subst h1;rw[FK]at hk |-;rw[KB n r hr λk h=>hk k (by simp[h])]
  by_cases h2:c=13
  ·subst h2;by_cases h3:∃k,r=10::k
   ·obtain⟨r,rfl⟩:=h3;rw[FJ]at hk;exact absurd (hk 1 ai) ag
   ·rw[Da (λk e=>h3 ⟨k,e⟩)]at hk;exact absurd (hk 2 ai) ag
  ·rw[FL h1 h2]at hk |-;rw[KB n r hr hk]
abbrev dA:=Nat×Nat
def dG:au->List dA
 | []=>[]
 | k::ks=>match dG ks with
  | (j,n)::r=>if k=j then(j,n+1)::r else(k,1)::(j,n)::r
  | []=>[(k,1)]
def dN(rs:List dA):au:=rs.flatMap λr=>List.replicate r.2 r.1
def sQ(p:Nat):List dA->Prop
 | []=>True
 | r::rs=>r.1<3/\1<=r.2/\r.1≠p/\sQ r.1 rs
def iE(rs:List dA):Nat:=(rs.map (·.2)).sum
theorem uv:∀(ks:au),dN (dG ks)=ks/\(dG ks).head?.map (·.1)=ks.head?/\((∀k∈ks,k<3)->∀p,ks.head?≠some p->sQ p (dG ks))/\iE (dG ks)=ks.length/\(dG ks).length<=ks.length
 | []=>⟨rfl,rfl,λ_ _ _=>trivial,rfl,aK _⟩
 | k::ks=>by
  obtain⟨a1,a2,a3,a4,a5⟩:=uv ks;unfold dG;split
  ·rename_i j n r hr;rw[hr]at a1 a2 a3 a4 a5;have hj:ks.head?=some j:=a2.symm;split
   ·rename_i e;subst e;refine⟨?_,rfl,λh p hp=>?_,?_,?_⟩
    ·unfold dN at a1 |-;rw[bz]at a1 |-;simp only[Lx,aL]at a1 |-;rw[a1]
    ·have:=a3 (λx hx=>h x (by simp[hx])) 3 (by rw[hj];have:=h k ai;simp;omega);obtain⟨b1,b2,_,b4⟩:=this;exact⟨b1,ai,λe=>hp (by rw[<-e];rfl),b4⟩
    ·unfold iE at a4 |-;simp only[fq,pR,av]at a4 |-;omega
    ·simp only[av]at a5 |-;omega
   ·rename_i e;refine⟨?_,rfl,λh p hp=>?_,?_,?_⟩
    ·unfold dN at a1 |-;rw[bz,a1];rfl
    ·have:=a3 (λx hx=>h x (by simp[hx])) k (by rw[hj];simp;exact λq=>e q.symm);exact⟨h k ai,aK _,λe=>hp (by rw[<-e];rfl),this⟩
    ·unfold iE at a4 |-;simp only[fq,pR,av]at a4 |-;omega
    ·simp only[av]at a5 |-;omega
  ·rename_i hr;rw[hr]at a1 a4;refine⟨?_,rfl,λh p hp=>⟨h k ai,aK _,λe=>hp (by rw[<-e];rfl),trivial⟩,?_,ai⟩
   ·rw[<-a1];rfl
   ·unfold iE at a4 |-;simp only[fq,pR,av,kx,List.sum_nil]at a4 |-;omega
theorem Uq:∀(n k:Nat) (ks:au),ks.head?≠some k->dG (List.replicate (n+1) k++ks)=(k,n+1)::dG ks
 | 0,k,ks,h=>by
  show(match dG ks with|(j,n)::r=>if k=j then(j,n+1)::r else(k,1)::(j,n)::r|[]=>[(k,1)])=_;have h2:=(uv ks).2.1;cases hr:dG ks with
  | nil=>rfl
  | cons x r =>
   obtain⟨j,n⟩:=x;rw[hr]at h2;simp only;rw[if_neg];rintro rfl;exact h h2.symm
 | n+1,k,ks,h=>by
  rw[Lx,aL,dG,Uq n k ks h];simp
theorem Uo:∀(rs:List dA) (p:Nat),sQ p rs->dG (dN rs)=rs/\(dN rs).head?=rs.head?.map (·.1)/\(∀k∈dN rs,k<3)/\(dN rs).length=iE rs
 | [],_,_=>⟨rfl,rfl,by simp[dN],rfl⟩
 | (k,n)::rs,p,h=>by
  obtain⟨h1,h2,h3,h4⟩:=h;obtain⟨a1,a2,a3,a4⟩:=Uo rs k h4;obtain⟨m,rfl⟩:∃m,n=m+1:=⟨n-1,by dsimp only at h2;omega⟩
  have e:dN ((k,m+1)::rs)=List.replicate (m+1) k++dN rs:=rfl;have hh:(dN rs).head?≠some k:=by
   rw[a2];cases rs with
   | nil=>simp
   | cons r rs=>simp only[pS,Option.map_some];intro q;exact h4.2.2.1 (kX q)
  rw[e,Uq _ _ _ hh,a1];refine⟨rfl,rfl,λx hx=>?_,?_⟩
  ·rcases cq.1 hx with hx|hx
   ·rw[(List.mem_replicate.1 hx).2];exact h1
   ·exact a3 x hx
  ·rw[aq,List.length_replicate,a4];rfl
abbrev bQ:=Int×Int
abbrev fJ(r:dA):bQ:=((r.1:Int),(r.2:Int))
def aZ(rs:List dA):List bQ:=rs.map fJ
def gZ(r:bQ):ad:=aM r.1++aM r.2
def jo(l:ad)(p:Nat):gH bQ :=
 match cD l p with
 | .bad c i=>.bad c i
 | .ok n q=>match cD l q with
  | .bad c i=>.bad c i
  | .ok m r=>.ok (n,m) r
theorem afS{x:bQ}(h1:dx x.1)(h2:dx x.2){l r:ad}{p:Nat}(hp:p<=l.length)(h:l.drop p=gZ x++r):jo l p=.ok x (p+(gZ x).length):=by
 have e:l=l.take p++(gZ x++r):=by rw[<-h,eN]
 have hpl:(l.take p).length=p:=by simp;omega
 unfold gZ at e;have n1:=kq h1.1 h1.2 (l.take p) (aM x.2++r);rw[hpl,show l.take p++(aM x.1++(aM x.2++r))=l by rw[bJ]at e;exact e.symm]at n1;have n2:=kq h2.1 h2.2 (l.take p++aM x.1) r;rw[show l.take p++aM x.1++(aM x.2++r)=l by rw[bJ]at e |-;exact e.symm,aq,hpl]at n2;unfold jo;rw[n1];simp only;rw[n2];simp only[gZ,aq];congr 1;omega
theorem GO{p q:Nat}{x:bQ}(hp:p<=l.length)(h:jo l p=.ok x q):p+2<=q/\q<=l.length/\l.drop p=gZ x++l.drop q/\dx x.1/\dx x.2:=by
 unfold jo at h;split at h
 ·cases h
 ·rename_i n q1 h1;split at h
  ·cases h
  ·rename_i m r h2;cases h;obtain⟨a1,a2,_,a3⟩:=eX hp h1;have a4:=lO hp h1;obtain⟨b1,b2,_,b3⟩:=eX aa h2;have b4:=lO aa h2;refine⟨aa,b2,?_,a3,b3⟩;rw[a4,b4,gZ,bJ]
def jg(left p:Int):List bQ->Bool
 | []=>true
 | x::r=>decide (0<=x.1/\x.1<3/\1<=x.2/\x.2<=left/\x.1≠p)&&jg (left-x.2) x.1 r
def ow(left:Int):List bQ->Int
 | []=>left
 | x::r=>ow (left-x.2) r
def sy(p:Int):List bQ->Int
 | []=>p
 | x::r=>sy x.1 r
theorem KU:∀(l k:List bQ) (a p:Int),jg a p (l++k)=(jg a p l&&jg (ow a l) (sy p l) k)
 | [],_,_,_=>by simp[jg,ow,sy]
 | x::l,k,a,p=>by simp only[aL,jg,ow,sy,KU l k,Bool.and_assoc]
theorem RJ:∀(l:List bQ) (a:Int) (x:bQ),ow a (l++[x])=ow a l-x.2
 | [],_,_=>rfl
 | y::l,a,x=>RJ l _ x
theorem RI:∀(l:List bQ) (p:Int) (x:bQ),sy p (l++[x])=x.1
 | [],_,_=>rfl
 | y::l,a,x=>RI l _ x
theorem SC:∀ {l:List bQ} {a p:Int},jg a p l=true->0<=a->(l.length:Int)<=a/\0<=ow a l/\ow a l<=a
 | [],a,_,_,h=>⟨by simpa using h,h,Int.le_refl _⟩
 | x::l,a,p,h,h0=>by
  simp only[jg,dM,decide_eq_true_eq]at h;obtain⟨⟨h1,h2,h3,h4,_⟩,h5⟩:=h;obtain⟨g1,g2,g3⟩:=SC h5 aa;simp only[av,ow];refine⟨aa,g2,aa⟩
theorem adt{l k:List bQ}{a p:Int}{x:bQ}(h:¬(0<=x.1/\x.1<3/\1<=x.2/\x.2<=ow a l/\x.1≠sy p l)):jg a p (l++x::k)=false:=by
 rw[KU,jg,decide_eq_false h];simp
theorem KV:∀ {l:List bQ} {a:Int} {p:Nat},jg a p l=true->0<=a->∃rs,l=aZ rs/\sQ p rs/\(iE rs:Int)<=a
 | [],a,p,_,h=>⟨[],rfl,trivial,by simpa [iE]using h⟩
 | x::l,a,p,h,h0=>by
  simp only[jg,dM,decide_eq_true_eq]at h;obtain⟨⟨h1,h2,h3,h4,h6⟩,h5⟩:=h;obtain⟨k,n⟩:=x;dsimp only at h1 h2 h3 h4 h5 h6;obtain⟨k,rfl⟩:∃j:Nat,k=j:=⟨k.toNat,aa⟩
  obtain⟨n,rfl⟩:∃j:Nat,n=j:=⟨n.toNat,aa⟩
  obtain⟨rs,g1,g2,g3⟩:=KV h5 aa;refine⟨(k,n)::rs,by rw[g1];rfl,⟨by show k<3;omega,by show 1<=n;omega,by show k≠p;omega,g2⟩,?_⟩;have:iE ((k,n)::rs)=n+iE rs:=by simp[iE]
  rw[this];omega
theorem SD:∀ {rs:List dA} {a:Int} {p:Nat},sQ p rs->(iE rs:Int)<=a->jg a p (aZ rs)=true
 | [],_,_,_,_=>rfl
 | (k,n)::rs,a,p,h,ha=>by
  obtain⟨h1,h2,h3,h4⟩:=h;dsimp only at h1 h2 h3 h4;have e:iE ((k,n)::rs)=n+iE rs:=by simp[iE]
  rw[e]at ha;show(decide (0<=(k:Int)/\(k:Int)<3/\1<=(n:Int)/\(n:Int)<=a/\(k:Int)≠p)&&jg (a-n) k (aZ rs))=true;rw[SD h4 aa,decide_eq_true aa];rfl
theorem Bb:∀ {rs:List dA} {p:Nat},sQ p rs->rs.length<=iE rs/\∀r∈rs,r.1<3/\r.2<=iE rs
 | [],_,_=>⟨aK _,ai⟩
 | (k,n)::rs,p,h=>by
  obtain⟨h1,h2,h3,h4⟩:=h;obtain⟨g1,g2⟩:=Bb h4;have e:iE ((k,n)::rs)=n+iE rs:=by simp[iE]
  dsimp only at h1 h2;rw[e];refine⟨by simp only[av];omega,λr hr=>?_⟩;rcases bB.1 hr with rfl|hr
  ·exact⟨h1,by dsimp only;omega⟩
  ·have:=g2 r hr;exact⟨this.1,aa⟩
abbrev KK(r:bQ):dA:=(r.1.toNat,r.2.toNat)
theorem KL(rs:List dA):(aZ rs).map KK=rs:=by
 unfold aZ;rw[kz];conv=>rhs;rw[<-pT rs]
 exact kY λx _=>by obtain⟨a,b⟩:=x;simp
def sW(b:ad):Option (Nat×List dA):=match cD b 0 with
 | .bad _ _=>none
 | .ok e p=>if e<0\/5<=e then none else match bX b (jo b) b.length p with
  | .bad _ _=>none
  | .ok rs q=>if q≠b.length then none else if jg 1000 3 rs=true then some (e.toNat,rs.map KK)else none
def iu(e:Nat)(ks:au):Bool:=decide (e=0)&&ks.all (· == 0)
def kE(b:ad):Option (Nat×List dA):=if b=[]then some (0,[])else match sW b with
 | none=>none
 | some (e,rs)=>if iu e (dN rs)=true then none else some (e,rs)
def rE(e:Nat)(rs:List dA):ad:=aM e++bY gZ (aZ rs)
def mQ(e:Nat)(ks:au):ad:=if iu e ks=true then[]else rE e (dG ks)
theorem afU(x:bQ):2<=(gZ x).length:=by
 have:=pM (zz x.1);have:=pM (zz x.2);simp only[gZ,aM,aq];omega
theorem PD:∀(l:List bQ),2*l.length<=(l.flatMap gZ).length
 | []=>aK _
 | x::l=>by
  have:=PD l;have:=afU x;rw[bz,aq,av];omega
theorem MS(e:Nat)(rs:List dA):rE e rs≠[]:=by
 intro h;have:=congrArg List.length h;have:=pM (zz (e:Int));simp only[rE,aM,aq,aI]at *;omega
theorem ahP{rs:List dA}(he:e<5)(ho:sQ 3 rs)(hs:iE rs<=1000):sW (rE e rs)=some (e,rs):=by
 obtain⟨b,hb⟩:∃b,b=rE e rs:=⟨_,rfl⟩
 rw[<-hb];unfold rE at hb;obtain⟨g1,g2⟩:=Bb ho;have eE:(aZ rs).length=rs.length:=by simp[aZ]
 have n1:=kq (n:=(e:Int)) aa aa [] (bY gZ (aZ rs));simp only[aA,<-hb,aI,dU]at n1;have n2:=kq (n:=((aZ rs).length:Int)) aa aa (aM (e:Int)) ((aZ rs).flatMap gZ);have lE:aM (e:Int)++(aM ((aZ rs).length:Int)++(aZ rs).flatMap gZ)=b:=hb.symm;rw[lE]at n2;have Af:=congrArg List.length lE;simp only[aq]at Af;have n3:=Az (f:=gZ) (b:=b) (one:=jo b) (aZ rs) ((aM (e:Int)).length+(aM ((aZ rs).length:Int)).length) aa (λx hx q r hq h=>by
  obtain⟨y,hy,rfl⟩:=cG.1 hx;have:=g2 y hy;exact afS (by constructor<;>dsimp only<;>omega) (by constructor<;>dsimp only<;>omega) hq h) [] (by
   rw[<-lE,<-bJ,<-aq,k7];simp)
 have h2:=PD (aZ rs);have n4:bX b (jo b) b.length (aM (e:Int)).length=.ok (aZ rs) b.length:=by
  unfold bX;rw[n2];simp only;rw[if_neg aa,e8,n3];congr 1;omega
 unfold sW;rw[n1];simp only;rw[if_neg aa,n4];simp only;have ho3:jg 1000 3 (aZ rs)=true:=SD (p:=3) ho aa;rw[if_neg ai,if_pos ho3,KL,e8]
theorem ahQ{rs:List dA}(h:sW b=some (e,rs)):e<5/\sQ 3 rs/\iE rs<=1000/\b=rE e rs:=by
 unfold sW at h;split at h
 ·cases h
 ·rename_i e' p h1;split at h
  ·cases h
  ·rename_i h2;split at h
   ·cases h
   ·rename_i l q h3;split at h
    ·cases h
    ·rename_i h4;split at h;rotate_left
     ·cases h
     rename_i h5;simp only[kv,Prod.mk.injEq]at h;obtain⟨rfl,rfl⟩:=h;obtain⟨rs,rfl,g2,g3⟩:=KV (p:=3) h5 ag;rw[KL];refine⟨aa,g2,aa,?_⟩;have s1:=lO (cu _) h1;obtain⟨p1,p2,_⟩:=eX (cu _) h1;rw[kZ]at s1;unfold bX at h3;split at h3
     ·cases h3
     ·rename_i n q1 h6;split at h3
      ·cases h3
      ·rename_i h7;have s2:=lO p2 h6;obtain⟨p3,p4,_⟩:=eX p2 h6;obtain⟨m1,m2,m3,m4⟩:=yl (f:=gZ) (b:=b) (one:=jo b) (λp q x hp h=>by
        obtain⟨a1,a2,a3,_⟩:=GO hp h;exact⟨aa,a2,a3⟩) _ _ _ _ p4 h3
       have e1:(e'.toNat:Int)=e':=aa;have e2:((aZ rs).length:Int)=n:=aa;have e3:q=b.length:=Decidable.not_not.1 h4;unfold rE bY;rw[e1,e2];rw[s2,m4,e3,yD,cm]at s1;exact s1
theorem Vx{rs:List dA}(h:kE b=some (e,rs)):e<5/\sQ 3 rs/\iE rs<=1000/\b=mQ e (dN rs)/\(b=[]↔iu e (dN rs)=true):=by
 unfold kE at h;split at h
 ·rename_i hb;cases h;subst hb;exact⟨ag,trivial,ag,rfl,by simp[iu,dN]⟩
 ·rename_i hb;split at h
  ·cases h
  ·rename_i e' rs' h1;split at h
   ·cases h
   ·rename_i h2;cases h;obtain⟨a1,a2,a3,a4⟩:=ahQ h1;refine⟨a1,a2,a3,?_,λq=>absurd q hb,λq=>absurd q h2⟩;unfold mQ;rw[if_neg h2,(Uo rs 3 a2).1];exact a4
theorem Vw(he:e<5)(hk:∀k∈ks,k<3)(hl:ks.length<=1000):kE (mQ e ks)=some (if iu e ks=true then(0,[])else(e,dG ks)):=by
 obtain⟨r1,r2,r3,r4,r5⟩:=uv ks;have ho:=r3 hk 3 (by
  cases ks with
  | nil=>simp
  | cons k ks=>have:=hk k ai;simp;omega)
 unfold mQ;split
 ·rfl
 ·rename_i ht;unfold kE;rw[if_neg (MS _ _),ahP he ho aa];simp only;rw[r1,if_neg ht]
abbrev B2(c:Nat):Prop:=(c<32/\c≠9/\c≠10/\c≠13)\/(127<=c/\c<160)
abbrev jL(b:ad):ar:=.mk 2 0 b [] []
def iU(b:ad):Option (ar×ad):=if(jw b).1.any (λc=>decide (B2 c))=true then none else
 some (jL ((lines (jw b).1).1.flatMap bM),mQ (jw b).2 (lines (jw b).1).2)
def sX(v:ar):fx:=if v.kind=2 then some v.bytes else none
def yX(b:ad)(rs:List dA)(l:au):Option au:=if b=[]then some l else gP l (dN rs)
def uD(t b:ad):fx:=match kE b with
 | none=>none
 | some (e,rs)=>match chars t with
  | none=>none
  | some l=>match yX b rs l with
   | none=>none
   | some cs=>lB e cs
noncomputable def nO(v:ar)(b:ad):fx:=match sX v with
 | none=>none
 | some t=>match uD t b with
  | none=>none
  | some o=>open Classical in if o.length<=1000/\iU o=some (v,b)then some o else none
theorem PO:cs.length<=(cs.flatMap bM).length:=by
 induction cs with
 | nil=>exact aK _
 | cons c cs ih =>
  have:=qd c;rw[bz,aq,av,yY];omega
theorem IZ(big:Bool):∀ {cs:au},(∀c∈cs,dX c)->cs.length<=((cs.flatMap fB).flatMap (cO big)).length/\(cs.flatMap bM).length<=2*((cs.flatMap fB).flatMap (cO big)).length
 | [],_=>⟨aK _,aK _⟩
 | c::cs,h=>by
  obtain⟨h1,h2⟩:=IZ big (cs:=cs) λx hx=>h x (by simp[hx]);have hn:=qd c;have hu:2<=((fB c).flatMap (cO big)).length:=by
   unfold fB;split
   ·simp[uE]
   ·simp[uE]
  rw[bz,bz,bT,aq,aq,av,yY];omega
theorem Pc(h:∀c∈cs,dX c)(he:lB e cs=some b):cs.length<=b.length/\(cs.flatMap bM).length<=2*b.length:=by
 have h0:=PO (cs:=cs);unfold lB at he;split at he
 ·cases he;omega
 ·split at he
  ·cases he;rw[aq];omega
  ·split at he
   ·cases he;obtain⟨a1,a2⟩:=IZ true h;rw[aq];omega
   ·split at he
    ·cases he;obtain⟨a1,a2⟩:=IZ false h;rw[aq];omega
    ·split at he
     ·rename_i hall;cases he;have:∀(cs:au),(∀c∈cs,c<256)->(cs.flatMap bM).length<=2*cs.length:=by
       intro cs;induction cs with
       | nil=>intro _;exact aK _
       | cons c cs ih =>
        intro hh;have:=ih λx hx=>hh x (by simp[hx]);have hc:=hh c ai;rw[bz,aq,av,yY];unfold jM;rw[if_pos (show c<2048 by omega)];split<;>omega
      have:=this cs hall;rw[bu];omega
     ·cases he
theorem KC:∀(n:Nat) (l:au),l.length<=n->((lines l).1.flatMap bM).length<=(l.flatMap bM).length
 | 0,l,h=>by
  have:l=[]:=bL aa;subst this;exact aK _
 | n+1,[],h=>aK _
 | n+1,c::r,h=>by
  have hr:r.length<=n:=by simpa using h
  have ih:=KC n r hr;have lD:(bM 10).length=1:=rfl;have Jb:(bM 13).length=1:=rfl;by_cases h1:c=10
  ·subst h1;rw[FK,bz,bz,aq,aq];omega
  by_cases h2:c=13
  ·subst h2;by_cases h3:∃k,r=10::k
   ·obtain⟨r,rfl⟩:=h3;have ih:=KC n r (by simp at hr;omega);rw[FJ,bz,bz,bz,aq,aq,aq];omega
   ·rw[Da (λk e=>h3 ⟨k,e⟩),bz,bz,aq,aq];omega
  ·rw[FL h1 h2,bz,bz,aq,aq];omega
structure Nu(b:ad)(v:ar)(r:ad)(cs:au)(e:Nat):Prop where
 eq:jw b=(cs,e)
 enc:lB e cs=some b
 e5:e<5
 ch:∀c∈cs,dX c
 val:v=jL ((lines cs).1.flatMap bM)
 res:r=mQ e (lines cs).2
 k3:∀k∈(lines cs).2,k<3
 kl:(lines cs).2.length<=b.length
 vl:((lines cs).1.flatMap bM).length<=2*b.length
 chars:chars ((lines cs).1.flatMap bM)=some (lines cs).1
 back:gP (lines cs).1 (lines cs).2=some cs
 plain:iu e (lines cs).2=true->(lines cs).1=cs/\e=0
theorem MT(h:iU b=some (v,r)):∃cs e,Nu b v r cs e:=by
 unfold iU at h;split at h
 ·cases h
 ·simp only[kv,Prod.mk.injEq]at h;obtain⟨h1,h2⟩:=h;obtain⟨g1,g2,g3⟩:=Py b;generalize hf:jw b=x at *;obtain⟨cs,e⟩:=x;dsimp only at h1 h2 g1 g2 g3;obtain⟨a1,a2,a3,a4,a5⟩:=FI _ cs (aK _);obtain⟨l1,l2⟩:=Pc g3 g1;have l3:=KC _ cs (aK _);refine⟨cs,e,hf,g1,g2,g3,h1.symm,h2.symm,a2,aa,aa,Ex _ λc hc=>?_,a1,λht=>?_⟩
  ·rcases a5 c hc with h|h
   ·subst h;unfold dX;omega
   ·exact g3 c h
  ·unfold iu at ht;simp only[dM,decide_eq_true_eq,bj,beq_iff_eq]at ht;exact⟨KB _ cs (aK _) ht.2,ht.1⟩
theorem ahS(b:ad):sX (jL b)=some b:=rfl
theorem ahT(hl:b.length<=1000)(T:Nu b v r cs e):uD ((lines cs).1.flatMap bM) r=some b:=by
 have hk:=T.kl;have bF:=Vw T.e5 T.k3 aa;rw[<-T.res]at bF;unfold uD;rw[bF];by_cases ht:iu e (lines cs).2=true
 ·obtain⟨p1,p2⟩:=T.plain ht;rw[if_pos ht];simp only;rw[T.chars];simp only;have hr:r=[]:=by rw[T.res,mQ,if_pos ht]
  rw[yX,if_pos hr];simp only;rw[p1,<-T.enc,p2]
 ·rw[if_neg ht];simp only;rw[T.chars];simp only;have hr:r≠[]:=by rw[T.res,mQ,if_neg ht];exact MS _ _
  rw[yX,if_neg hr,(uv _).1,T.back];exact T.enc
theorem Vy(hl:b.length<=1000)(h:iU b=some (v,r)):nO v r=some b:=by
 obtain⟨cs,e,T⟩:=MT h;unfold nO;rw[T.val,ahS];simp only;rw[ahT hl T];simp only;rw[if_pos ⟨hl,by rw[<-T.val];exact h⟩]
theorem Zv(b:ad):enc (jL b)=aM 2++cP b:=by
 rw[B5];simp only[ar.kind,ar.num,ar.bytes,ar.names,ar.parts];rw[if_neg ag,if_pos trivial]
theorem Ym(b:ad):fe 0 (jL b) 0=.ok 1:=by
 have e:pre 0 (jL b)=[(jL b,0)]:=by
  rw[Dw];simp
 have n2:fG (jL b)=0:=by simp[fG,ig,ar.kind,ar.num,ar.bytes,ar.names,ar.parts]
 unfold fe;rw[e];simp[scan,kH,n2]
theorem Nf(h3:b.length<=3000):bI (jL b)=(0,0):=by
 have hl:=congrArg List.length (Zv b);have a3:=yz (b:=b) aa;have a10:=fj (n:=2) ag ag;simp only[aq]at hl;unfold bI;rw[Ym];simp only;rw[if_neg aa]
abbrev R5:ad:=[101,110,99,111,100,105,110,103]
abbrev R3:ad:=[99,97,114,114,105,97,103,101,32,114,101,116,117,114,110,32,97,110,100,32,108,105,110,101,32,102,101,101,100]
abbrev R4:ad:=[99,97,114,114,105,97,103,101,32,114,101,116,117,114,110]
def yi(s:ad)(n:Nat):List oT:=if 0<n then[(s,(n:Int))]else[]
def D2(e:Nat)(ks:au):List oT:=yi R5 e++yi R3 (ks.count 1)++yi R4 (ks.count 2)
def Vu(b:ad):Option (List oT):=match kE b with
 | none=>none
 | some (e,rs)=>some (D2 e (dN rs))
theorem KF{s:ad}:yi s n=[]↔n=0:=by
 unfold yi;split
 ·rename_i h;exact⟨λq=>(by cases q),λq=>aa⟩
 ·rename_i h;exact⟨λ_=>by omega,λ_=>rfl⟩
theorem Vv(e:Nat)(ks:au):(D2 e ks).length<=4:=by
 have h:∀s n,(yi s n).length<=1:=λs n=>by unfold yi;split<;>simp
 have:=h R5 e;have:=h R3 (ks.count 1);have:=h R4 (ks.count 2);simp only[D2,aq];omega
theorem ahO(hk:∀k∈ks,k<3):D2 e ks=[]↔iu e ks=true:=by
 unfold D2 iu;rw[A1,A1,KF,KF,KF,aey,aey];simp only[dM,decide_eq_true_eq,bj,beq_iff_eq];constructor
 ·rintro⟨⟨h1,h2⟩,h3⟩;refine⟨h1,λk hm=>?_⟩;have:=hk k hm;have:k≠1:=λe=>h2 (e▸hm);have:k≠2:=λe=>h3 (e▸hm);omega
 ·rintro⟨h1,h2⟩;exact⟨⟨h1,λhm=>absurd (h2 1 hm) ag⟩,λhm=>absurd (h2 2 hm) ag⟩
theorem afV{x:dA}(h1:x.1<3)(h2:x.2<=1000):(gZ (fJ x)).length<=20:=by
 have a1:=fj (n:=(x.1:Int)) aa aa;have a2:=fj (n:=(x.2:Int)) aa aa;simp only[gZ,aq];omega
theorem ahR(he:e<5)(hk:∀k∈ks,k<3)(hl:ks.length<=1000):(mQ e ks).length<=100000:=by
 obtain⟨r1,r2,r3,r4,r5⟩:=uv ks;have ho:=r3 hk 3 (by
  cases ks with
  | nil=>simp
  | cons k ks=>have:=hk k ai;simp;omega)
 obtain⟨s1,s2⟩:=Bb ho;have eE:(aZ (dG ks)).length=(dG ks).length:=by simp[aZ]
 unfold mQ;split
 ·simp
 ·unfold rE;have a1:=fj (n:=(e:Int)) aa aa;have:=vI (f:=gZ) (m:=20) (l:=aZ (dG ks)) aa (λx hx=>by
   obtain⟨y,hy,rfl⟩:=cG.1 hx;have:=s2 y hy;exact afV this.1 aa)
  rw[aq];omega
theorem Vz(hl:b.length<=1000)(h:iU b=some (v,r)):VB 1048576 v/\(bI v).1=0/\(sX v).isSome=true/\nO v r=some b/\r.length<=100000000/\∃ls,Vu r=some ls/\ls.length<=4/\(ls=[]↔r=[]):=by
 have bW:=Vy hl h;obtain⟨cs,e,T⟩:=MT h;have hk:=T.kl;have hv:=T.vl;have bF:=Vw T.e5 T.k3 aa;rw[<-T.res]at bF;refine⟨by rw[T.val];exact wF aa,by rw[T.val,Nf aa],by rw[T.val];rfl,bW,by rw[T.res];have:=ahR T.e5 T.k3 aa;omega,?_⟩;unfold Vu;rw[bF];by_cases ht:iu e (lines cs).2=true
 ·rw[if_pos ht];refine⟨_,rfl,Vv _ _,?_⟩;rw[T.res,mQ,if_pos ht];exact⟨λ_=>rfl,λ_=>rfl⟩
 ·rw[if_neg ht];refine⟨_,rfl,Vv _ _,?_⟩;rw[(uv _).1,ahO T.k3,T.res,mQ,if_neg ht];exact⟨λq=>absurd q ht,λq=>absurd q (MS _ _)⟩
end Go.Proofs.YtmoiobegbpkkbaaGreatDoor
