import Derived.Test.YtmoiobegbpkkbaaGreatDoorTAI
import Derived.Deep.AppendSrc
import Derived.Carry
import Derived.MapKept
open Decidable renaming not_not->pB
open Go.Lib renaming decDigits_one->Fb,itoa_length_le->aio
open Go.Value renaming int->bO
open Int renaming toNat_natCast->jr
open List renaming range->bZ,all_eq_true->bc,mem_cons->bP,append_nil->aZ,length_nil->aK,take_append_drop->eW,drop_take->u4,length_cons->aq,zipIdx_cons->BV,take_of_length_le->bJ,drop_of_length_le->fc,drop_drop->gK,append_assoc->bj,cons_append->bb,nil_append->aL,mem_map->cJ,length_append->ak,length_take->bg,length_drop->aU,take_zero->kM,length_singleton->bT,take_succ_cons->sy,length->bU,flatMap_cons->bD,mem_append->cc,eq_nil_of_length_eq_zero->dt,append_of_mem->E0,drop_eq_nil_of_le->sb,zip_cons_cons->I6,getElem_mem->bS,set_cons_succ->fa,take_succ_eq_append_getElem->bK,drop_eq_getElem_cons->dk,flatMap_append->cw,flatMap_nil->eL,mem_singleton->cz,length_pos_iff->iC,zipIdx_append->E6,map_cons->fO,foldl_append->E7,set_cons_zero->bH,length_map->aW,map_append->dU,getElem_drop->wL,length_range->gq,zipIdx_nil->OL,takeWhile_append_dropWhile->pE,singleton_append->zh,length_zip->Xh,zip_nil_right->ain
open List.cons renaming injEq->gp
open Nat renaming le_refl->aQ,le_trans->qu,zero_add->dR,zero_le->cE,lt_succ_self->sj
open Option renaming map_some->gQ,map_eq_some_iff->iB,map_map->tC
open UInt8 renaming ofNat->aD,toNat_inj->bL,toNat_lt->dm
namespace Go.Proofs.YtmoiobegbpkkbaaGreatDoor
open Go Go.RowKit
set_option maxRecDepth 100000
set_option maxHeartbeats 8000000
variable{W:ad}
variable{l x lb r s b:ab}{t:Tok}{c d:UInt8}{v:ao}{ts:List Tok}{L:BL}{k i u n:Nat}{ns xs:bf}{V:ad}{α:Type}
abbrev lX(c:UInt8):Bool:=decide (97<=c.toNat)&&decide (c.toNat<=122)
abbrev fy(word:Bool)(c:UInt8):Bool:=(dQ c||decide (c=45))||(word&&(lX c||decide (c=95)||decide (c=46)))
abbrev lu(c:UInt8):Bool:=decide (c=91)||decide (c=93)||decide (c=123)||decide (c=125)||decide (c=44)||decide (c=58)
def kz:ab->Option (ab×ab)
 | []=>none
 | [c]=>if c=92 then none else if c=34 then some ([34],[])else none
 | c::d::r=>if c=92 then(kz r).map λx=>(92::d::x.1,x.2)else if c=34 then some ([34],d::r)else(kz (d::r)).map λx=>(c::x.1,x.2)
def zA:ab->Option (ab×ab)
 | []=>none
 | c::r=>if lu c=true then some ([c],r)else if c=34 then(kz r).map λx=>(34::x.1,x.2)else
  if(c::r).takeWhile (fy (lX c))=[]then none else some ((c::r).takeWhile (fy (lX c)),(c::r).dropWhile (fy (lX c)))
def ky:Nat->ab->Option (BL×ab)
 | 0,_=>none
 | n+1,l=>if l.dropWhile bB=[]then some ([],l)else match zA (l.dropWhile bB)with
  | none=>none
  | some (t,r)=>(ky n r).map λx=>((l.takeWhile bB,t)::x.1,x.2)
theorem zC(c:UInt8)(r:ab):zA (c::r)=if lu c=true then some ([c],r)else if c=34 then(kz r).map λx=>(34::x.1,x.2)else
  if(c::r).takeWhile (fy (lX c))=[]then none else some ((c::r).takeWhile (fy (lX c)),(c::r).dropWhile (fy (lX c))):=rfl
theorem PE:∀ {l x t:ab},kz l=some (x,t)->l=x++t
 | [],x,t,h=>by simp[kz]at h
 | [c],x,t,h=>by
  unfold kz at h;split at h
  ·cases h
  split at h
  ·rename_i hc;cases h;rw[hc];rfl
  cases h
 | c::d::r,x,t,h=>by
  unfold kz at h;split at h
  ·rename_i hc;obtain⟨y,hy,h⟩:=iB.1 h;cases h;rw[hc,PE hy];rfl
  split at h
  ·rename_i hc;cases h;rw[hc];rfl
  obtain⟨y,hy,h⟩:=iB.1 h;cases h;rw[PE hy];rfl
theorem PS{t:ab}(h:zA l=some (x,t)):l=x++t/\x≠[]:=by
 cases l with
 | nil=>simp[zA]at h
 | cons c r =>
  rw[zC]at h;split at h
  ·cases h;exact⟨rfl,ah⟩
  split at h
  ·rename_i hc;obtain⟨y,hy,h⟩:=iB.1 h;cases h;rw[hc,PE hy];exact⟨rfl,ah⟩
  split at h
  ·cases h
  rename_i hne;cases h;exact⟨by rw[pE],hne⟩
theorem Po:∀ {n:Nat} {l:ab} {L:BL} {lb:ab},ky n l=some (L,lb)->l=cC L++lb/\lD L/\mr lb
 | 0,l,L,lb,h=>by simp[ky]at h
 | n+1,l,L,lb,h=>by
  rw[ky]at h;split at h
  ·rename_i h0;cases h;exact⟨rfl,λp hp=>by simp at hp,(dropWhile_nil h0).1⟩
  split at h
  ·cases h
  rename_i t r ht;obtain⟨x,hx,h⟩:=iB.1 h;obtain⟨M,mb⟩:=x;cases h;obtain⟨h1,h2,h3⟩:=Po hx;refine⟨?_,?_,h3⟩
  ·rw[qa];conv=>lhs;rw[<-pE (p:=bB) (l:=l),(PS ht).1,h1]
   simp[bj]
  intro p hp;rcases bP.1 hp with rfl|hp
  ·exact JX
  exact h2 p hp
def Ad(t:Tok)(ts:List Tok):Prop:=(∃c,t=[c]/\lu c=true)\/(∃b,t=js b)\/((∃c r,t=c::r/\lu c=false/\c≠34/\∀x∈t,fy (lX c) x=true)/\(ts=[]\/∃c r,ts=[c]::r/\lu c=true))
def GT:List Tok->Prop
 | []=>True
 | t::ts=>Ad t ts/\GT ts
theorem GT.append:∀ {a b:List Tok},GT a->GT b->(b=[]\/∃c r,b=[c]::r/\lu c=true)->GT (a++b)
 | [],b,_,hb,_=>hb
 | t::a,b,ha,hb,h=>by
  refine⟨?_,GT.append ha.2 hb h⟩;rcases ha.1 with h1|h1|⟨h1,h2⟩
  ·exact .inl h1
  ·exact .inr (.inl h1)
  refine .inr (.inr ⟨h1,?_⟩);rcases h2 with rfl|⟨c,r,rfl,hc⟩
  ·exact h
  exact .inr ⟨c,r++b,rfl,hc⟩
theorem Cg(h:lu c=true)(ts:List Tok):Ad [c] ts:=.inl ⟨c,rfl,h⟩
theorem amo(h:lN c=true):fy true c=true:=by
 simp only[lN,fU]at h;simp only[fy,dQ,lX];simp at h |-;have e1:c=45↔c.toNat=45:=⟨λh=>by rw[h];rfl,λh=>bL.1 h⟩
 have e2:c=95↔c.toNat=95:=⟨λh=>by rw[h];rfl,λh=>bL.1 h⟩
 have e3:c=46↔c.toNat=46:=⟨λh=>by rw[h];rfl,λh=>bL.1 h⟩
 rw[e1,e2,e3];omega
theorem JO(h:lu c=true):c=91\/c=93\/c=123\/c=125\/c=44\/c=58:=by simpa [lu,or_assoc]using h
theorem aj3(h:lu c=true)(w:Bool):fy w c=false:=by rcases JO h with rfl|rfl|rfl|rfl|rfl|rfl<;>cases w<;>decide
theorem Q9(h:bB c=true)(w:Bool):fy w c=false:=by rcases GD h with rfl|rfl|rfl|rfl<;>cases w<;>decide
theorem agu{x:Tok}(h:cX x=true)(ts:List Tok)(hts:∃c r,ts=[c]::r/\lu c=true):Ad x ts:=by
 obtain⟨c,r,hc,h1,h2⟩:=yS h;have hs:lu c=false:=by
  cases e:lu c with
  | false=>rfl
  | true=>rcases JO e with rfl|rfl|rfl|rfl|rfl|rfl<;>exact absurd h1 ai
 have Mp:lX c=true:=by simp[lX,h1]
 exact .inr (.inr ⟨⟨c,r,hc,hs,by rintro rfl;exact absurd h1 ai,λy hy=>by rw[Mp];exact amo (h2 y hy)⟩,.inr hts⟩)
theorem agR(v:Int):Ad (Lib.itoa v) []:=by
 obtain⟨c,r,hc,h1,h2⟩:=wc v;have hh:c.toNat=45\/(48<=c.toNat/\c.toNat<=57):=by
  rcases h1 with rfl|h1
  ·exact .inl rfl
  simp only[dQ,Bool.and_eq_true,eQ]at h1;exact .inr h1
 have hs:lu c=false:=by
  cases e:lu c with
  | false=>rfl
  | true=>rcases JO e with rfl|rfl|rfl|rfl|rfl|rfl<;>exact absurd hh ai
 refine .inr (.inr ⟨⟨c,r,hc,hs,by rintro rfl;exact absurd hh ai,λx hx=>?_⟩,.inl rfl⟩);rw[hc]at hx;rcases bP.1 hx with rfl|hx
 ·rcases h1 with rfl|h1
  ·simp[fy]
  simp[fy,h1]
 simp[fy,h2 x hx]
theorem ak5(k:Int)(s:bf)(i:Nat)(hi:i≠0)(ps:List ao):iq k s i ps=[]\/∃c r,iq k s i ps=[c]::r/\lu c=true:=by
 cases ps with
 | nil=>exact .inl rfl
 | cons p ps =>rw[pI];unfold fW;rw[ae hi];exact .inr ⟨44,_,rfl,ai⟩
theorem PT{k:Int}{s:bf}(hs:k=4->∀x∈s,cX x=true):∀(ps:List ao) (i:Nat),(∀p∈ps,GT (dp p))->(k=4->i+ps.length<=s.length)->GT (iq k s i ps)
 | [],i,_,_=>trivial
 | p::ps,i,h,hl=>by
  rw[pI];refine GT.append ?_ (PT hs ps (i+1) (λq hq=>h q (by simp[hq])) (λhk=>by have:=hl hk;simp only[aq]at this;omega)) (ak5 k s (i+1) aa ps);have hp:=h p ah;have h2:GT ((if k=4 then[s.getD i [],[58]]else[])++dp p):=by
   split
   ·rename_i hk;have:=hl hk;simp only[aq]at this;have hlt:i<s.length:=aa;have e:s.getD i []=s[i]:=by simp[List.getD,hlt]
    rw[e];exact⟨agu (hs hk _ (bS hlt)) _ ⟨58,_,rfl,ai⟩,Cg ai _,hp⟩
   exact hp
  unfold fW;split
  ·exact h2
  exact⟨Cg ai _,h2⟩
theorem aaa(hv:gY v):GT (dp v):=by
 induction hv with
 | num h=>rw[Co];exact⟨agR _,trivial⟩
 | j4 b=>rw[zD];exact⟨.inr (.inl ⟨b,rfl⟩),trivial⟩
 | @uO ps h ih =>rw[zE];exact⟨Cg ai _,GT.append (PT (k:=3) (λh=>absurd h ai) ps 0 ih (λh=>absurd h ai)) ⟨Cg ai _,trivial⟩ (.inr ⟨93,[],rfl,ai⟩)⟩
 | @u5 s ps hs hl h ih =>rw[zF];exact⟨Cg ai _,GT.append (PT (k:=4) (λ_=>hs) ps 0 ih (λ_=>by omega)) ⟨Cg ai _,trivial⟩ (.inr ⟨125,[],rfl,ai⟩)⟩
theorem Yq:∀(b:ab) (t:ab),kz (eF b++34::t)=some (eF b++[34],t)
 | [],t=>by cases t<;>rfl
 | c::b,t=>by
  have e:eF (c::b)=jZ c++eF b:=by simp[eF]
  have ih:=Yq b t;obtain⟨x,r,hx⟩:∃x r,eF b++34::t=x::r:=by cases eF b<;>exact⟨_,_,rfl⟩
  rw[e,bj,bj];rw[hx]at ih |-;by_cases h1:c=34\/c=92
  ·rw[zj h1];simp only[bb,aL];rw[kz,ag rfl,ih];rfl
  by_cases h2:kS c=true
  ·have hd:∀n:Fin 16,iy n.val≠34/\iy n.val≠92:=ai;have hlt:=c.toNat_lt;have d1:=hd ⟨c.toNat/16,aa⟩;have d2:=hd ⟨c.toNat%16,aa⟩;rw[B0 h2];simp only[bb,aL];rw[kz,ag rfl,kz,ae d1.2,ae d1.1,kz,ae d2.2,ae d2.1,ih];rfl
  rw[BZ h1 (by simpa using h2)];simp only[bb,aL];rw[kz,ae (λh=>h1 (.inr h)),ae (λh=>h1 (.inl h)),ih];rfl
theorem akS(h:Ad t ts){r:ab}(hr:ts=[]\/(∃c x,ts=[c]::x/\lu c=true)->∀w,tr (fy w) r):zA (t++r)=some (t,r):=by
 rcases h with⟨c,rfl,hc⟩|⟨b,rfl⟩|⟨⟨c,x,rfl,hc,dy,hw⟩,hts⟩
 ·rw[zh,zC,ag hc]
 ·unfold js;simp only[bb,bj,aL];rw[zC,ae ai,ag rfl,Yq];rfl
 obtain⟨h1,h2⟩:=qJ hw (hr hts (lX c));rw[bb]at h1 h2 |-;rw[zC,ae (by simp[hc]),ae dy,h1,h2,ae ah]
theorem X1:∀ {L:BL} {n:Nat} {lb:ab},GT (L.map Prod.snd)->(∀p∈L,∃c r,p.2=c::r/\bB c=false)->lD L->mr lb->(cC L++lb).length<n->ky n (cC L++lb)=some (L,lb)
 | [],0,lb,_,_,_,_,hn=>by omega
 | [],n+1,lb,_,_,_,hlb,_=>by
  have:lb.dropWhile bB=[]:=by simpa using(qJ (p:=bB) hlb (t:=[]) (λc r e=>by cases e)).2
  rw[show cC []++lb=lb from rfl,ky,ag this]
 | p::L,0,lb,_,_,_,_,hn=>by omega
 | p::L,n+1,lb,hg,hne,hb,hlb,hn=>by
  obtain⟨b,t⟩:=p;obtain⟨c,x,hc,kY⟩:=hne (b,t) ah;dsimp only at hc;have Ug:Ad t (L.map Prod.snd)/\GT (L.map Prod.snd):=hg;have e:cC ((b,t)::L)++lb=b++c::(x++(cC L++lb)):=by rw[qa,hc];simp
  obtain⟨h1,h2⟩:=Am hb.head kY (x++(cC L++lb));have h3:(cC ((b,t)::L)++lb).dropWhile bB=t++(cC L++lb):=by rw[e,h2,hc];rfl
  have h4:(cC ((b,t)::L)++lb).takeWhile bB=b:=by rw[e,h1]
  have hstop:L.map Prod.snd=[]\/(∃c x,L.map Prod.snd=[c]::x/\lu c=true)->∀w,tr (fy w) (cC L++lb):=by
   rintro(h|⟨c,x,h,hs⟩)w
   ·obtain rfl:L=[]:=List.map_eq_nil_iff.1 h;intro y r hy;have hy:lb=y::r:=hy;exact Q9 (hlb y (by rw[hy];simp)) w
   obtain⟨b',M,rfl,_⟩:=ow h;rw[qa];have:b'++([c]++cC M)++lb=b'++c::(cC M++lb):=ah;rw[this];exact Bs (λ_ h=>Q9 h w) hb.tail.head (aj3 hs w) _
  have hlen:=ax bU e;simp only[ak,aq]at hlen hn;rw[ky,ae (by rw[h3,hc];simp),h3,akS Ug.1 hstop];simp only;rw[X1 Ug.2 (λq hq=>hne q (by simp[hq])) hb.tail hlb (by rw[ak];omega),h4];rfl
theorem Fit.scan(h:Fit l v L lb){n:Nat}(hn:l.length<n):ky n l=some (L,lb):=by rw[h.eq]at hn |-;exact X1 (by rw[h.tk];exact aaa h.wf) (λp hp=>PU h.wf (by rw[<-h.tk];exact cJ.2 ⟨p,hp,rfl⟩)) h.bk h.bl hn
def A0(h l:UInt8):ab:=match kI h,kI l with
 | some a,some b=>[aD (16*a+b)]
 | _,_=>[]
def Cr:ab->ab×ab
 | c::d::r=>if c≠92 then([c],d::r)else if d≠120 then([d],r)else(match r with
  | h::l::e::r'=>(A0 h l,e::r')
  | _=>([],[]))
 | _=>([],[])
theorem zI(c d:UInt8)(r:ab):Cr (c::d::r)=if c≠92 then([c],d::r)else if d≠120 then([d],r)else(match r with
  | h::l::e::r'=>(A0 h l,e::r')
  | _=>([],[])):=rfl
theorem alN(h:¬l.length<2):(Cr l).2.length<l.length:=by
 match l,h with
 | [],h=>exact absurd ai h
 | [_],h=>exact absurd ah h
 | c::d::r,_ =>
  rw[zI];split
  ·simp
  split
  ·simp only[aq];omega
  split
  ·simp only[aq];omega
  simp
def gW(l:ab):ab:=if _h:l.length<2 then[]else(Cr l).1++gW (Cr l).2
termination_by l.length
decreasing_by exact alN _h
theorem alP(c:UInt8):gW [c]=[]:=by rw[gW,dif_pos ah]
theorem Cs(c d:UInt8)(r:ab):gW (c::d::r)=(Cr (c::d::r)).1++gW (Cr (c::d::r)).2:=by rw[gW,dif_neg ah]
theorem Zj(h:c≠92):gW (c::d::r)=c::gW (d::r):=by rw[Cs,zI,ag h];rfl
theorem Zg(h:d≠120):gW (92::d::r)=d::gW r:=by rw[Cs,zI,ae ai,ag h];rfl
theorem Zh{h l e:UInt8}:gW (92::120::h::l::e::r)=A0 h l++gW (e::r):=by rw[Cs,zI,ae ai,ae ai]
theorem Zi:∀(b:ab),gW (eF b++[34])=b
 | []=>alP 34
 | c::b=>by
  have e:eF (c::b)=jZ c++eF b:=by simp[eF]
  have ih:=Zi b;obtain⟨x,r,hx⟩:∃x r,eF b++[34]=x::r:=by cases eF b<;>exact⟨_,_,rfl⟩
  rw[e,bj];rw[hx]at ih |-;by_cases h1:c=34\/c=92
  ·rw[zj h1];simp only[bb,aL];rw[Zg (by rintro rfl;exact absurd h1 ai),ih]
  by_cases h2:kS c=true
  ·have hlt:=c.toNat_lt;rw[B0 h2];simp only[bb,aL];rw[Zh,ih];unfold A0;rw[A1 (show c.toNat/16<16 by omega),A1 (show c.toNat%16<16 by omega)];simp only[zh,gp,and_true];apply bL.1;rw[UInt8.toNat_ofNat'];omega
  rw[BZ h1 (by simpa using h2)];simp only[bb,aL];rw[Zj (λh=>h1 (.inr h)),ih]
def zJ(s:Tok):fV:=if js (gW s.tail)=s then some (gW s.tail)else none
theorem alQ(b:ab):zJ (js b)=some b:=by unfold zJ;have:gW (js b).tail=b:=Zi b;rw[this,ag rfl]
theorem alR{s:Tok}(h:zJ s=some b):s=js b:=by
 unfold zJ at h;split at h
 ·rename_i he;cases h;exact he.symm
 cases h
abbrev j3:=List Tok->Option (ao×List Tok)
abbrev VL:=bf×List ao×List Tok
def qN(f:j3)(k:Int)(ns:bf)(ts:List Tok):Option (bf×ao×List Tok) :=
 if k=4 then match ts with
  | nm::c::r=>if cX nm=true/\c=[58]then(match f r with
   | none=>none
   | some (v,r')=>some (ns++[nm],v,r'))else none
  | _=>none
 else match f ts with
  | none=>none
  | some (v,r')=>some (ns,v,r')
def qO(f:j3)(k:Int):Nat->VL->Option VL
 | 0,_=>none
 | m+1,x=>match qN f k x.1 x.2.2 with
  | none=>none
  | some (ns,v,q)=>match q with
   | []=>none
   | u::q'=>if u=gG k then some (ns,x.2.1++[v],q')else if u=[44]then qO f k m (ns,x.2.1++[v],q')else none
def sN(f:j3)(k:Int)(ts:List Tok):Option VL:=match ts with
 | []=>none
 | t::r=>if t=gG k then some ([],[],r)else qO f k ((t::r).length+1) ([],[],t::r)
def gF:Nat->j3
 | 0,_=>none
 | _+1,[]=>none
 | n+1,s::ts=>if s.head?=some 34 then(match zJ s with
   | none=>none
   | some b=>some (.mk 2 0 b [] [],ts))
  else if s=[91]then(sN (gF n) 3 ts).map λx=>(.mk 3 0 [] x.1 x.2.1,x.2.2)
  else if s=[123]then(sN (gF n) 4 ts).map λx=>(.mk 4 0 [] x.1 x.2.1,x.2.2)
  else match jN s with
   | none=>none
   | some v=>some (.mk 1 v [] [] [],ts)
def Gm(f:j3):Prop:=∀ts v r,f ts=some (v,r)->ts=dp v++r/\gY v
theorem al1{f:j3}(hf:Gm f){k:Int}{ns ns':bf}{ts q:List Tok}{v:ao}(h:qN f k ns ts=some (ns',v,q)) :
  ∃nm,ns'=(if k=4 then ns++[nm]else ns)/\(k=4->cX nm=true)/\ts=(if k=4 then[nm,[58]]else[])++(dp v++q)/\gY v:=by
 unfold qN at h;split at h
 ·rename_i hk;split at h
  ·rename_i nm c r;split at h
   ·rename_i hc;split at h
    ·cases h
    rename_i v' r' hv;cases h;obtain⟨h1,h2⟩:=hf _ _ _ hv;exact⟨nm,by rw[ag hk],λ_=>hc.1,by rw[ag hk,hc.2,h1];rfl,h2⟩
   cases h
  cases h
 rename_i hk;split at h
 ·cases h
 rename_i v' r' hv;cases h;obtain⟨h1,h2⟩:=hf _ _ _ hv;exact⟨[],by rw[ae hk],λh=>absurd h hk,by rw[ae hk];exact h1,h2⟩
theorem YN{k:Int}{nm:ab}{x:bf}(hi:k=4->ns.length=i)(v:ao):fW k (if k=4 then(ns++[nm])++x else[]) i v=(if i=0 then[]else[[44]])++((if k=4 then[nm,[58]]else[])++dp v):=by
 unfold fW;by_cases hk:k=4
 ·have:((ns++[nm])++x).getD i []=nm:=by rw[<-hi hk];simp[List.getD]
  rw[ag hk,ag hk,ag hk,this]
 rw[ae hk,ae hk]
theorem Zv{f:j3}(hf:Gm f){k:Int}:∀ {m:Nat} {ns:bf} {ps:List ao} {ts:List Tok} {y:VL},qO f k m (ns,ps,ts)=some y->(k=4->ns.length=ps.length)->(k≠4->ns=[]) ->
  ∃nm rs,y.1=ns++nm/\y.2.1=ps++rs/\(∀x∈nm,cX x=true)/\(k=4->nm.length=rs.length)/\(k≠4->nm=[])/\(∀p∈rs,gY p)/\(if ps.length=0 then[]else[[44]])++ts=iq k (ns++nm) ps.length rs++(gG k::y.2.2)
 | 0,ns,ps,ts,y,h,_,_=>by simp[qO]at h
 | m+1,ns,ps,ts,y,h,hl,hz=>by
  rw[qO]at h;split at h
  ·cases h
  rename_i ns' v q hv;obtain⟨nm,e1,e2,e3,e4⟩:=al1 hf hv;dsimp only at e1 e3;have hns:∀x,(if k=4 then(ns++[nm])++x else[])=(if k=4 then ns'++x else[]):=λx=>by
   by_cases hk:k=4
   ·rw[ag hk,ag hk,e1,ag hk]
   rw[ae hk,ae hk]
  split at h
  ·cases h
  rename_i u q';split at h
  ·rename_i hu;cases h;refine⟨if k=4 then[nm]else[],[v],?_,rfl,?_,λhk=>by rw[ag hk];rfl,λhk=>by rw[ae hk],by simpa using e4,?_⟩
   ·dsimp only;rw[e1];split<;>simp
   ·intro x hx;split at hx
    ·rename_i hk;simp only[cz]at hx;rw[hx];exact e2 hk
    simp at hx
   have h1:=YN (k:=k) (ns:=ns) (nm:=nm) (x:=[]) (i:=ps.length) hl v;have h2:ns++(if k=4 then[nm]else[])=(if k=4 then(ns++[nm])++[]else[]):=by
    by_cases hk:k=4
    ·rw[ag hk,ag hk,aZ]
    rw[ae hk,ae hk,hz hk,aZ]
   rw[pI,h2,h1,e3,hu];simp[iq,bj]
  split at h
  ·rename_i hne hu;obtain⟨Bn,rs,g1,g2,g3,g4,g5,g6,g7⟩:=Zv hf h (λhk=>by rw[e1,ag hk];have:=hl hk;simp;omega) (λhk=>by rw[e1,ae hk];exact hz hk);refine⟨(if k=4 then[nm]else[])++Bn,v::rs,?_,by rw[g2];simp,?_,λhk=>by have:=g4 hk;rw[ag hk];simp;omega,λhk=>by rw[ae hk,g5 hk];rfl,?_,?_⟩
   ·rw[g1,e1];split<;>simp
   ·intro x hx;rcases cc.1 hx with hx|hx
    ·split at hx
     ·rename_i hk;simp only[cz]at hx;rw[hx];exact e2 hk
     simp at hx
    exact g3 x hx
   ·intro x hx;rcases bP.1 hx with rfl|hx
    ·exact e4
    exact g6 x hx
   have h1:=YN (k:=k) (ns:=ns) (nm:=nm) (x:=Bn) (i:=ps.length) hl v;have h2:ns++((if k=4 then[nm]else[])++Bn)=(if k=4 then(ns++[nm])++Bn else[]):=by
    by_cases hk:k=4
    ·rw[ag hk,ag hk,bj]
    rw[ae hk,ae hk,hz hk,g5 hk];rfl
   have h3:(if k=4 then(ns++[nm])++Bn else[])=ns'++Bn:=by
    rw[hns];by_cases hk:k=4
    ·rw[ag hk]
    rw[ae hk,g5 hk,e1,ae hk,hz hk];rfl
   rw[ae ah,ak,bT]at g7;rw[pI,h2,h1,h3,bj,<-g7,e3,hu];simp[bj]
  cases h
theorem Zp{f:j3}(hf:Gm f){k:Int}{ts:List Tok}{y:VL}(h:sN f k ts=some y) :
  ts=eG k y.1 y.2.1++(gG k::y.2.2)/\(∀x∈y.1,cX x=true)/\(k=4->y.1.length=y.2.1.length)/\(k≠4->y.1=[])/\(∀p∈y.2.1,gY p):=by
 unfold sN at h;split at h
 ·cases h
 rename_i t r;split at h
 ·rename_i ht;cases h;exact⟨by rw[ht];rfl,ah,λ_=>rfl,λ_=>rfl,ah⟩
 obtain⟨nm,rs,g1,g2,g3,g4,g5,g6,g7⟩:=Zv hf h (λ_=>rfl) (λ_=>rfl);simp only[aL]at g1 g2 g7;rw[g1,g2];exact⟨by simpa [eG,iq]using g7,g3,g4,g5,g6⟩
theorem F3:∀(n:Nat),Gm (gF n)
 | 0=>λts v r h=>by simp[gF]at h
 | n+1=>λts v r h=>by
  have ih:=F3 n;cases ts with
  | nil=>simp[gF]at h
  | cons s ts =>
   rw[gF]at h;split at h
   ·split at h
    ·cases h
    rename_i b hb;cases h;exact⟨by rw[zD,alR hb];rfl,.j4 b⟩
   split at h
   ·rename_i hs;obtain⟨x,hx,h⟩:=iB.1 h;obtain⟨ns,ps,q⟩:=x;cases h;obtain⟨h1,h2,h3,h4,h5⟩:=Zp ih hx;obtain rfl:ns=[]:=h4 ai;exact⟨by rw[zE,hs,h1];simp,.uO h5⟩
   split at h
   ·rename_i hs;obtain⟨x,hx,h⟩:=iB.1 h;obtain⟨ns,ps,q⟩:=x;cases h;obtain⟨h1,h2,h3,h4,h5⟩:=Zp ih hx;exact⟨by rw[zF,hs,h1];simp,.u5 h2 (h3 rfl) h5⟩
   split at h
   ·cases h
   rename_i u hu;cases h;obtain⟨h1,h2⟩:=PX hu;exact⟨by rw[Co,h1];rfl,.num h2⟩
def Cz(f:j3)(v:ao):Prop:=∀r,f (dp v++r)=some (v,r)
theorem Zu{f:j3}{k:Int}{ns:bf}(hns:k=4->∀x∈ns,cX x=true)(hz:k≠4->ns=[])(r:List Tok):∀(rs:List ao) (qs:List ao) (m:Nat) (ts:List Tok),rs≠[]->(∀p∈rs,Cz f p)->(k=4->qs.length+rs.length=ns.length) ->
  (if qs.length=0 then[]else[[44]])++ts=iq k ns qs.length rs++(gG k::r)->ts.length<m->qO f k m (ns.take qs.length,qs,ts)=some (ns,qs++rs,r)
 | [],_,_,_,h,_,_,_,_=>absurd rfl h
 | p::rs,qs,0,ts,_,_,_,_,hm=>by omega
 | p::rs,qs,m+1,ts,_,hp,hl,hts,hm=>by
  rw[pI]at hts;unfold fW at hts;rw[bj,bj,bj]at hts;have hts:=List.append_cancel_left hts;have UB:=hp p ah;have hE:qN f k (ns.take qs.length) ts=some (ns.take (qs++[p]).length,p,iq k ns (qs.length+1) rs++(gG k::r)):=by
   unfold qN;by_cases hk:k=4
   ·have:=hl hk;simp only[aq]at this;have hlt:qs.length<ns.length:=aa;have e:ns.getD qs.length []=ns[qs.length]:=by simp[List.getD,hlt]
    rw[ag hk,e]at hts;rw[ag hk,hts];simp only[bb,aL];rw[ag ⟨hns hk _ (bS hlt),trivial⟩,UB];simp only;rw[ak,bT,bK hlt]
   rw[ae hk]at hts;rw[ae hk,hts,aL,UB];simp only;rw[hz hk];simp
  rw[qO];simp only;rw[hE];simp only;cases rs with
  | nil =>
   simp only[iq,OL,eL,aL];rw[ag trivial];have e1:ns.take (qs++[p]).length=ns:=by
    by_cases hk:k=4
    ·have:=hl hk;rw[bJ (by simp at *;omega)]
    rw[hz hk];simp
   rw[e1]
  | cons p' rs =>
   have e2:∃q',iq k ns (qs.length+1) (p'::rs)++(gG k::r)=[44]::q':=by rw[pI];unfold fW;rw[ae aa];exact⟨_,rfl⟩
   obtain⟨q',hq⟩:=e2;have hne:([44]:Tok)≠gG k:=by intro h;simp only[gp,and_true]at h;split at h<;>exact absurd h ai
   have hlen:=ax bU hts;rw[hq]at hlen |-;simp only;rw[ae hne,ag trivial];have h1:1<=(dp p).length:=by
    cases h:dp p with
    | nil=>exact absurd h (FU p)
    | cons t x=>simp
   simp only[ak,aq]at hlen;have:=Zu hns hz r (p'::rs) (qs++[p]) m q' ah (λx hx=>hp x (by simp[hx])) (λhk=>by have:=hl hk;simp at *;omega) (by rw[ae ah,ak,bT,hq];rfl) aa
   rw[this,bj];rfl
theorem Zo{f:j3}{k:Int}{ps:List ao}(hns:k=4->∀x∈ns,cX x=true)(hz:k≠4->ns=[])(hl:k=4->ps.length=ns.length)(hp:∀p∈ps,Cz f p)(hk4:k=3\/k=4)(r:List Tok):sN f k (eG k ns ps++(gG k::r))=some (ns,ps,r):=by
 cases ps with
 | nil =>
  have:ns=[]:=by
   by_cases hk:k=4
   ·exact dt (by have:=hl hk;simpa using this.symm)
   exact hz hk
  subst this;rw[FT,aL,sN,ag rfl]
 | cons p ps =>
  have e:eG k ns (p::ps)=iq k ns 0 (p::ps):=rfl;obtain⟨t,x,hx⟩:∃t x,eG k ns (p::ps)++(gG k::r)=t::x:=by cases h:eG k ns (p::ps)<;>exact⟨_,_,rfl⟩
  have hne:t≠gG k:=by
   rw[e,pI]at hx;unfold fW at hx;rw[ag rfl,aL]at hx;rintro rfl;by_cases hk:k=4
   ·rw[ag hk]at hx;simp only[bb,gp]at hx;have hlt:0<ns.length:=by have:=hl hk;simp at this;omega
    have h1:=hns hk _ (bS hlt);have e2:ns.getD 0 []=ns[0]:=by simp[List.getD,hlt]
    rw[<-e2,hx.1,show gG k=[125]from ax (λx=>[x]) (ag hk)]at h1;exact absurd h1 ai
   rw[ae hk,aL]at hx;have h3:k=3:=hk4.resolve_right hk;subst h3;rw[vd]at hx;split at hx
   ·obtain⟨c,y,hc,h1,_⟩:=wc p.num;simp only[bb,gp]at hx;have:=hx.1;rw[hc]at this;simp only[gp]at this;rw[this.1]at h1;exact absurd h1 ai
   split at hx
   ·simp only[bb,gp]at hx;have:=hx.1;simp[js]at this
   simp only[bb,gp]at hx;have:=hx.1;revert this;split<;>decide
  rw[hx,sN,ae hne,<-hx];exact Zu hns hz r (p::ps) [] _ _ ah hp (λhk=>by have:=hl hk;simpa using this) rfl (sj _)
theorem al5(hv:gY v):∀ {d a b:Nat},gz d v a=.ok b->Cz (gF (10-d)) v:=by
 induction hv with
 | num h =>
  intro d a b hc r;rw[xw]at hc;split at hc
  ·cases hc
  rename_i h0;have h0:=pB.1 h0;unfold gy at h0;split at h0
  ·cases h0
  rename_i hd;obtain⟨n,hn⟩:∃n,10-d=n+1:=⟨9-d,aa⟩
  rw[hn,Co,zh];obtain⟨c,x,hc,h1,h2,h3,h4⟩:=Im _;rw[gF,ae,ae,ae,PW h]
  ·rw[hc];simpa using λh=>absurd h h4
  ·rw[hc];simpa using λh=>absurd h h3
  rw[hc];simpa using h2
 | j4 x =>
  intro d a b hc r;rw[xw]at hc;split at hc
  ·cases hc
  rename_i h0;have h0:=pB.1 h0;unfold gy at h0;split at h0
  ·cases h0
  rename_i hd;obtain⟨n,hn⟩:∃n,10-d=n+1:=⟨9-d,aa⟩
  rw[hn,zD,zh,gF,ag (show(js x).head?=some 34 from rfl),alQ]
 | @uO ps h ih =>
  intro d a b hc r;rw[xw]at hc;split at hc
  ·cases hc
  rename_i h0;have h0:=pB.1 h0;unfold gy at h0;split at h0
  ·cases h0
  rename_i hd;obtain⟨n,hn⟩:∃n,10-d=n+1:=⟨9-d,aa⟩
  have hp:∀p∈ps,Cz (gF n) p:=λp hp=>by obtain⟨x,y,rK⟩:=Ao hc p hp;have:=ih p hp rK;rwa [show 10-(d+1)=n by omega]at this
  rw[hn,zE,bb,bj,zh,gF,ae ah,ag (show ko 3=[91]from rfl),Zo (λh=>absurd h ai) (λ_=>rfl) (λh=>absurd h ai) hp (.inl rfl)];rfl
 | @u5 s ps hs hl h ih =>
  intro d a b hc r;rw[xw]at hc;split at hc
  ·cases hc
  rename_i h0;have h0:=pB.1 h0;unfold gy at h0;split at h0
  ·cases h0
  rename_i hd;obtain⟨n,hn⟩:∃n,10-d=n+1:=⟨9-d,aa⟩
  have hp:∀p∈ps,Cz (gF n) p:=λp hp=>by obtain⟨x,y,rK⟩:=Ao hc p hp;have:=ih p hp rK;rwa [show 10-(d+1)=n by omega]at this
  rw[hn,zF,bb,bj,zh,gF,ae ah,ae ai,ag (show ko 4=[123]from rfl),Zo (λ_=>hs) (λh=>absurd rfl h) (λ_=>hl.symm) hp (.inr rfl)];rfl
theorem amk(h:(ct v).1=0):∃b,gz 0 v 0=.ok b:=by
 unfold ct at h;cases hc:gz 0 v 0 with
 | ok b=>exact⟨b,rfl⟩
 | error e =>rw[hc]at h;dsimp only at h;exfalso;exact abu hc h
where
 abu {v:ao} {e:Int×Int} (hc:gz 0 v 0=.error e) (h:e.1=0):False:=by unfold gz at hc;exact X3 hc h
 X3:∀ {l:List (ao×Nat)} {n:Nat} {e:Int×Int},scan l n=.error e->e.1=0->False
  | [],n,e,hc,_=>by simp[scan]at hc
  | (v,d)::l,n,e,hc,h=>by
   simp only[scan]at hc;split at hc
   ·rename_i hne;cases hc;exact hne h
   exact X3 hc h
theorem ald(_:l.length<=1048576):iG l=match ky (l.length+1) l with
  | none=>none
  | some (L,lb)=>match gF 10 (L.map Prod.snd)with
   | none=>none
   | some (v,r)=>if r=[]/\(ct v).1=0 then some (v,nN (lg L lb))else none:=by
 cases h:iG l with
 | some y =>obtain⟨v,r⟩:=y;obtain⟨L,lb,h1,rfl,hv⟩:=P0 h;obtain⟨b,hb⟩:=amk hv;have h2:=al5 h1.wf hb [];rw[aZ]at h2;rw[h1.scan (sj _)];simp only;rw[h1.tk,h2];simp only;rw[ag ⟨trivial,hv⟩]
 | none =>
  cases hs:ky (l.length+1) l with
  | none=>rfl
  | some x =>
   obtain⟨L,lb⟩:=x;simp only;cases hv:gF 10 (L.map Prod.snd)with
   | none=>rfl
   | some y =>
    obtain⟨v,r⟩:=y;simp only;split
    ·rename_i hc;exfalso;obtain⟨h1,h2,h3⟩:=Po hs;obtain⟨h4,h5⟩:=F3 10 _ _ _ hv;rw[hc.1,aZ]at h4;rw[alc ⟨h1,h2,h3,h4,h5⟩ hc.2]at h;cases h
    rfl
def gx:Bool->List Tok->bf
 | _,[]=>[]
 | sp,t::ts=>ju sp::gx (af t) ts
def vp(sp:Bool):List Tok->Bool
 | []=>sp
 | t::ts=>vp (af t) ts
theorem Qp:∀(sp:Bool) (a b:List Tok),gx sp (a++b)=gx sp a++gx (vp sp a) b
 | _,[],_=>rfl
 | sp,t::a,b=>by rw[bb,gx,gx,Qp (af t) a b];rfl
theorem KC:∀(sp:Bool) (a b:List Tok),vp sp (a++b)=vp (vp sp a) b
 | _,[],_=>rfl
 | _,_::a,b=>KC _ a b
theorem sO:∀(sp:Bool) (a:List Tok),(gx sp a).length=a.length
 | _,[]=>rfl
 | sp,t::a=>by rw[gx,aq,aq,sO]
theorem aaC(sp:Bool)(v:ao):vp sp (dp v)=false:=by
 rw[vd];split
 ·exact U7 v.num
 split
 ·exact Xq v.bytes
 rw[vp,KC];show af [if v.kind=4 then 125 else 93]=false;by_cases h:v.kind=4
 ·rw[ag h];decide
 rw[ae h];decide
theorem Sn:∀(L:BL) (i:Nat) (sp:Bool),iw i sp L=(((L.map Prod.fst).zip (gx sp (L.map Prod.snd))).zipIdx i).flatMap λx=>if x.1.1=x.1.2 then[]else[(x.2,x.1.1)]
 | [],i,sp=>rfl
 | p::L,i,sp=>by rw[iw,fO,fO,gx,I6,BV,bD,Sn L (i+1) (af p.2)]
theorem GZ(h:¬u<10):Lib.decDigits u=Lib.decDigits (u/10)++[aD (48+u%10)]:=by
 conv=>lhs;rw[Lib.decDigits]
 rw[dif_neg h]
theorem Sg:∀(k u:Nat),u<10^(k+1)->(Lib.decDigits u).length<=k+1
 | 0,u,h=>by rw[Fb (by simpa using h)];simp
 | k+1,u,h=>by
  by_cases h10:u<10
  ·rw[Fb h10];simp
  have:=Sg k (u/10) (by rw[Nat.pow_succ]at h;omega);rw[GZ h10,ak,bT];omega
theorem afg{v:Int}(h:cY v):(Lib.itoa v).length<=20:=by
 have key:∀u:Nat,u<=9223372036854775808->(Lib.decDigits u).length<=19:=λu hu=>Sg 18 u aa;unfold Lib.itoa;split
 ·have:=key v.natAbs aa;simp only[aq];omega
 have:=key v.toNat aa;omega
def nZ(a:Nat)(c:UInt8):Nat:=if c=45 then a else 10*a+(c.toNat-48)
abbrev jz(s:ab):Nat:=s.foldl nZ 0
theorem G7{a:Nat}(h:dQ c=true):nZ a c=10*a+(c.toNat-48):=by unfold nZ;rw[ae];rintro rfl;exact absurd h ai
theorem Ss(u:Nat):jz (Lib.decDigits u)=u:=by
 induction u using Nat.strongRecOn with
 | _ u ih =>
  by_cases h:u<10
  ·rw[Fb h];show nZ 0 _=u;rw[G7 (by simp only[dQ,vB h];simp;omega),vB h];omega
  have hm:u%10<10:=aa;rw[GZ h];show List.foldl nZ 0 _=u;rw[E7];have:=ih (u/10) aa;unfold jz at this;rw[this];show nZ (u/10) _=u;rw[G7 (by simp only[dQ,vB hm];simp;omega),vB hm];omega
theorem Su(v:Int):jz (Lib.itoa v)=v.natAbs:=by
 unfold Lib.itoa;split
 ·exact Ss v.natAbs
 have:=Ss v.toNat;rw[this];omega
theorem St:∀(l:ab) (a:Nat),a<=l.foldl nZ a
 | [],a=>aQ _
 | c::l,a=>by
  have:=St l (nZ a c);have h2:a<=nZ a c:=by unfold nZ;split<;>omega
  exact qu h2 this
theorem Sv(hi:i<s.length):jz (s.take (i+1))=nZ (jz (s.take i)) s[i]:=by unfold jz;rw[bK hi,E7];rfl
theorem acm(hi:i<s.length)(hd:dQ s[i]=true):10*jz (s.take i)<=jz s:=by
 have h1:jz s=(s.drop (i+1)).foldl nZ (jz (s.take (i+1))):=by unfold jz;rw[<-E7,eW]
 have h2:=St (s.drop (i+1)) (jz (s.take (i+1)));rw[<-h1,Sv hi,G7 hd]at h2;omega
theorem aff(v:Int):(Lib.itoa v).head?=some 45↔v<0:=by
 unfold Lib.itoa;split
 ·rename_i h;exact⟨λ_=>h,λ_=>rfl⟩
 rename_i h;refine⟨λe=>?_,λe=>absurd e h⟩;obtain⟨c,r,hc⟩:=G2 v.toNat;have hd:=Db v.toNat c (by rw[hc];simp);rw[hc]at e;simp only[List.head?_cons,Option.some.injEq]at e;subst e;exact absurd hd ai
theorem J4(h:∀v,cY v->s=Lib.itoa v->False):jN s=none:=by
 cases e:jN s with
 | none=>rfl
 | some v =>obtain⟨h1,h2⟩:=PX e;exact(h v h2 h1).elim
theorem Oa(hi:i<s.length)(h1:¬(i=0/\s[i]=45))(h2:dQ s[i]=false):jN s=none:=by
 refine J4 λv _ e=>?_;subst e;obtain⟨c,r,hc,h3,h4⟩:=wc v;cases i with
 | zero =>
  have e:(Lib.itoa v)[0]=c:=by simp[hc]
  rw[e]at h1 h2;rcases h3 with rfl|h3
  ·exact h1 ⟨rfl,rfl⟩
  rw[h3]at h2;cases h2
 | succ i =>
  have qe:i<r.length:=by rw[hc]at hi;simpa using hi
  have e:(Lib.itoa v)[i+1]=r[i]:=by simp[hc]
  rw[e,h4 _ (bS qe)]at h2;cases h2
theorem agQ(h:20<s.length):jN s=none:=by refine J4 λv hv e=>?_;have:=afg hv;rw[<-e]at this;omega
theorem agO(hi:i<s.length)(hd:dQ s[i]=true)(h:922337203685477580<jz (s.take i)):jN s=none:=by refine J4 λv hv e=>?_;have h1:=acm hi hd;have h2:=Su v;rw[<-e]at h2;have:=hv.1;have:=hv.2;omega
theorem agP{n:Int}(hn:cY n)(h1:s.head?=some 45->jz s<=9223372036854775808->n = -((jz s:Nat):Int))(h2:s.head?≠some 45->jz s<=9223372036854775807->n=((jz s:Nat):Int)):jN s=if Lib.itoa n=s then some n else none:=by
 split
 ·rename_i e;rw[<-e];exact PW hn
 rename_i hne;refine J4 λv hv e=>hne ?_;have hd:=Su v;have hh:=aff v;rw[<-e]at hd hh;have:=hv.1;have:=hv.2;have:n=v:=by
  by_cases hv0:v<0
  ·have:=h1 (hh.2 hv0) aa;omega
  have:=h2 (λq=>hv0 (hh.1 q)) aa;omega
 rw[this,e]
theorem Bu{n:Int}(hn:cY n)(h1:s.head?=some 45->jz s<=9223372036854775808->n = -((jz s:Nat):Int))(h2:s.head?≠some 45->jz s<=9223372036854775807->n=((jz s:Nat):Int)):jN s=if decide (Lib.itoa n=s)=true then some n else none:=by rw[agP hn h1 h2];simp only[eQ]
def td(h l:UInt8)(n:Nat):ab:=match kI h,kI l with
 | some a,some b=>if 16*a+b<n then[aD (16*a+b)]else[]
 | _,_=>[]
theorem aec(h l:UInt8):td h l 0=[]:=by
 unfold td;split
 ·rw[ae aa]
 rfl
theorem ad9(h l:UInt8):td h l 256=A0 h l:=by
 unfold td A0;cases ha:kI h with
 | none=>rfl
 | some a =>
  cases hb:kI l with
  | none=>rfl
  | some b =>have:=(vP ha).1;have:=(vP hb).1;simp only;rw[ag aa]
theorem aeb(h l:UInt8){n:Nat}(hn:n<256):td h l (n+1)=td h l n++(if[iy (n/16),iy (n%16)]=[h,l]then[aD n]else[]):=by
 have d1:=A1 (show n/16<16 by omega);have d2:=A1 (show n%16<16 by omega);unfold td;cases ha:kI h with
 | none =>
  rw[ae]
  ·rfl
  intro e;simp only[gp,and_true]at e;rw[e.1,ha]at d1;cases d1
 | some a =>
  cases hb:kI l with
  | none =>
   rw[ae]
   ·rfl
   intro e;simp only[gp,and_true]at e;rw[e.2,hb]at d2;cases d2
  | some b =>
   obtain⟨a1,a2⟩:=vP ha;obtain⟨b1,b2⟩:=vP hb;simp only;by_cases he:n=16*a+b
   ·have e1:n/16=a:=aa;have e2:n%16=b:=aa;rw[ag aa,ae aa,e1,e2,a2,b2,ag rfl,he];rfl
   have hne:¬ [iy (n/16),iy (n%16)]=[h,l]:=by intro e;simp only[gp,and_true]at e;rw[e.1,ha]at d1;rw[e.2,hb]at d2;cases d1;cases d2;omega
   rw[ae hne,aZ];by_cases hlt:16*a+b<n
   ·rw[ag hlt,ag aa]
   rw[ae hlt,ae aa]
theorem aea(h l:UInt8)(n:Nat):(td h l n).length<=1:=by
 unfold td;split
 ·split<;>simp
 simp
theorem FZ(h:l.length<2):gW l=[]:=by rw[gW,dif_pos h]
theorem alO(h:l.length<5)(h2:2<=l.length)(h0:l.take 2=[92,120]):gW l=[]:=by
 match l,h,h2,h0 with
 | [c,d],_,_,h0 =>simp only[sy,kM,gp,and_true]at h0;rw[h0.1,h0.2,Cs,zI,ae ai,ae ai];exact FZ ah
 | [c,d,e],_,_,h0 =>simp only[sy,kM,gp,and_true]at h0;rw[h0.1,h0.2,Cs,zI,ae ai,ae ai];exact FZ ah
 | [c,d,e,f],_,_,h0 =>simp only[sy,kM,gp,and_true]at h0;rw[h0.1,h0.2,Cs,zI,ae ai,ae ai];exact FZ ah
def oQ(f:j3)(k:Int)(m:Nat)(x:VL):Option VL:=match x.2.2 with
 | []=>none
 | t::r=>if t=gG k/\x.2.1=[]then some (x.1,x.2.1,r)else qO f k m (x.1,x.2.1,t::r)
theorem Zq(f:j3)(k:Int)(ts:List Tok):sN f k ts=oQ f k (ts.length+1) ([],[],ts):=by
 unfold sN oQ;cases ts with
 | nil=>rfl
 | cons t r=>simp
theorem al4{f:j3}(hf:f []=none)(k:Int)(m:Nat)(ns:bf)(ps:List ao):qO f k m (ns,ps,[])=none:=by
 cases m with
 | zero=>rfl
 | succ m =>
  rw[qO];simp only;unfold qN;by_cases hk:k=4
  ·rw[ag hk]
  rw[ae hk,hf]
theorem al3{f:j3}(hf:f []=none)(k:Int)(m:Nat){ns:bf}{ps:List ao}(hp:ps≠[])(q:List Tok):qO f k m (ns,ps,q)=oQ f k m (ns,ps,q):=by
 unfold oQ;cases q with
 | nil=>exact al4 hf k m ns ps
 | cons t r =>simp only;rw[ae (λh=>hp h.2)]
theorem Zs{f:j3}(hf:f []=none)(k:Int)(m:Nat){ns:bf}{ps:List ao}{t:Tok}{r:List Tok}(h:¬(t=gG k/\ps=[])):oQ f k (m+1) (ns,ps,t::r)=match qN f k ns (t::r)with
  | none=>none
  | some (ns',v,q)=>match q with
   | []=>none
   | u::q'=>if u=gG k then some (ns',ps++[v],q')else if u=[44]then oQ f k m (ns',ps++[v],q')else none:=by
 unfold oQ;simp only;rw[ae h,qO];simp only;cases qN f k ns (t::r)with
 | none=>rfl
 | some x =>
  obtain⟨ns',v,q⟩:=x;cases q with
  | nil=>rfl
  | cons u q' =>
   simp only;split
   ·rfl
   split
   ·exact al3 hf k m ah q'
   rfl
theorem F2(n:Nat):gF n []=none:=by cases n<;>rfl
theorem VG(h:cX x=true):af x=false:=by
 obtain⟨c,r,hc,h1,_⟩:=yS h;have n1:x≠[44]:=λe=>by rw[hc]at e;simp only[gp]at e;rw[e.1]at h1;exact absurd h1 ai
 have n2:x≠[58]:=λe=>by rw[hc]at e;simp only[gp]at e;rw[e.1]at h1;exact absurd h1 ai
 simp[af,n1,n2]
theorem QI(k:Int)(s:bf)(sp:Bool)(ps:List ao):vp sp (ko k::eG k s ps)=false:=by
 rcases List.eq_nil_or_concat ps with rfl|⟨qs,p,rfl⟩
 ·rw[FT];show af [if k=4 then 123 else 91]=false;split<;>decide
 rw[List.concat_eq_append,Cn];unfold fW;rw[<-bb,<-bj,<-bj,KC,aaC]
theorem ZI(k:Int)(s:bf)(sp:Bool)(ps:List ao)(p:ao):gx sp (ko k::eG k s (ps++[p]))=gx sp (ko k::eG k s ps)++gx false (fW k s ps.length p):=by rw[Cn,<-bb,Qp,QI]
theorem ZG(k:Int)(s:bf)(sp:Bool)(ps:List ao):gx sp (ko k::(eG k s ps++[gG k]))=gx sp (ko k::eG k s ps)++[[]]:=by rw[<-bb,Qp,QI];rfl
theorem ZH(k:Int)(s:bf)(i:Nat)(p:ao)(hn:k=4->cX (s.getD i [])=true):gx false (fW k s i p)=(if i=0 then[]else[[]])++((if k=4 then[ju (decide (i≠0)),[]]else[])++gx (decide (i≠0)||decide (k=4)) (dp p)):=by
 unfold fW;by_cases hi:i=0
 ·rw[ag hi,ag hi,aL,aL];by_cases hk:k=4
  ·rw[ag hk,ag hk];simp only[bb,aL,gx,hi,hk];rw[VG (by rw[<-hi];exact hn hk)];rfl
  rw[ae hk,ae hk];simp[hi,hk]
 rw[ae hi,ae hi];by_cases hk:k=4
 ·rw[ag hk,ag hk];simp only[bb,aL,gx,hk];rw[VG (hn hk),bw hi];rfl
 rw[ae hk,ae hk,bw hi];rfl
def pX(bs us:bf):List kG:=((bs.zip us).zipIdx).flatMap λx=>if x.1.1=x.1.2 then[]else[(x.2,x.1.1)]
theorem aha :lg L lb=pX (L.map Prod.fst++[lb]) (gx false (L.map Prod.snd)++[[10]]):=by
 unfold pX;rw[List.zip_append (by rw[aW,sO,aW]),E6,cw,<-Sn];unfold lg;congr 1;have:((L.map Prod.fst).zip (gx false (L.map Prod.snd))).length=L.length:=by rw[Xh,sO,aW,aW];omega
 simp only[I6,ain,BV,OL,bD,eL,aZ,this,dR]
theorem ach{bs us:bf}(h1:k<bs.length)(h2:k<us.length):pX (bs.take (k+1)) (us.take (k+1))=pX (bs.take k) (us.take k)++(if bs[k]=us[k]then[]else[(k,bs[k])]):=by
 unfold pX;rw[bK h1,bK h2,List.zip_append (by rw[bg,bg];omega),E6,cw];congr 1;have:((bs.take k).zip (us.take k)).length=k:=by rw[Xh,bg,bg];omega
 simp only[I6,ain,BV,OL,bD,eL,aZ,this,dR]
theorem acg(bs us:bf):(pX bs us).length<=bs.length:=by
 unfold pX;have:∀(l:List ((ab×ab)×Nat)),(l.flatMap λx=>if x.1.1=x.1.2 then[]else[(x.2,x.1.1)]).length<=l.length:=by
  intro l;induction l with
  | nil=>exact aQ _
  | cons x l ih =>
   rw[bD,ak,aq];have:(if x.1.1=x.1.2 then[]else[(x.2,x.1.1)]).length<=1:=by split<;>simp
   omega
 refine qu (this _) ?_;rw[List.length_zipIdx,Xh];omega
theorem aiA(b:ab):(eF b).length<=4*b.length:=by
 induction b with
 | nil=>simp[eF]
 | cons c b ih =>
  have e:eF (c::b)=jZ c++eF b:=by simp[eF]
  have:(jZ c).length<=4:=by unfold jZ;split<;>(try split)<;>simp
  rw[e,ak,aq];omega
theorem aiB(hk:k<b.length):eF (b.take (k+1))=eF (b.take k)++jZ b[k]:=by rw[bK hk,eF,cw,List.flatMap_singleton];rfl
section
variable{Z:List kG}
theorem gY.part(h:gY v):∀p∈v.parts,gY p:=by
 cases h with
 | num _=>simp[ao.parts]
 | j4 _=>simp[ao.parts]
 | uO h=>exact h
 | u5 _ _ h=>exact h
theorem Wp(hk:k<v.parts.length):∃R,eG v.kind v.names v.parts=eG v.kind v.names (v.parts.take k)++(fW v.kind v.names k v.parts[k]++R):=by
 refine⟨iq v.kind v.names (k+1) (v.parts.drop (k+1)),?_⟩;have e:v.parts=v.parts.take k++v.parts[k]::v.parts.drop (k+1):=by rw[List.getElem_cons_drop,eW]
 rw[<-pI];conv=>lhs;rw[e]
 unfold eG iq;rw[E6,cw,bg,show min k v.parts.length=k by omega,dR]
end
theorem Sh(u:Nat)(h:u<18446744073709551616):(Lib.decDigits u).length<=30:=by
 by_cases h1:u<9223372036854775808
 ·have:=aio (u:Int) aa aa;have e:Lib.itoa (u:Int)=Lib.decDigits u:=by unfold Lib.itoa;rw[ae aa,jr]
  rw[e]at this;omega
 rw[GZ aa,ak,bT];have:=aio ((u/10:Nat):Int) aa aa;have e:Lib.itoa ((u/10:Nat):Int)=Lib.decDigits (u/10):=by unfold Lib.itoa;rw[ae aa,jr]
 rw[e]at this;omega
def Gf(u n:Nat)(s:ab):Prop:=(s=[]/\n=u)\/(s≠[]/\n=0/\s=Lib.decDigits u)\/(s≠[]/\0<n/\Lib.decDigits u=Lib.decDigits n++s)
theorem Gf.step(h:Gf u n s)(hc:s=[]\/0<n):Gf u (n/10) (aD (48+n%10)::s):=by
 have key:Lib.decDigits u=Lib.decDigits n++s:=by
  rcases h with⟨rfl,rfl⟩|⟨h1,h2,_⟩|⟨_,_,h⟩
  ·simp
  ·rcases hc with hc|hc
   ·exact absurd hc h1
   omega
  exact h
 by_cases h10:n<10
 ·refine .inr (.inl ⟨ah,aa,?_⟩);rw[key,Fb h10,show n%10=n by omega];rfl
 refine .inr (.inr ⟨ah,aa,?_⟩);rw[key,GZ h10];simp
theorem Si(hV:Sub V W){u:Nat}(hu:u<9223372036854775808):aB 181 [iv (u:Int)] W λv w'=>v=str (Lib.decDigits u)/\Rel W V [] V w':=by
 have H:=aG hV;have hdl:=Sh u aa;refine eV Tryz.func181 29 [0,2,3,5,7,17] ?_;refine wk ?_;refine aP (S:=Nat×ab) al [2,5,7] (λk=>[(0,iv (k.1:Int)),(3,str k.2)]) (λk w'=>k.1<=u/\Gf u k.1 k.2/\Rel W V [] V w') (λk _=>k.1+(if k.2=[]then 1 else 0)) (u,[]) ?_;conv=>whnf
 refine⟨sB,⟨aQ _,.inl ⟨rfl,rfl⟩,H.sx⟩,?_⟩;clear H;rintro⟨n,s⟩w⟨hn,hI,H⟩;dsimp only at hn hI H |-;have fu:s.length<=30:=by
  rcases hI with⟨rfl,_⟩|⟨_,_,rfl⟩|⟨_,_,h⟩
  ·simp
  ·exact hdl
  have:=ax bU h;rw[ak]at this;omega
 have fin:s≠[]->n=0->s=Lib.decDigits u:=λh1 h2=>by
  rcases hI with⟨h,_⟩|⟨_,_,h⟩|⟨_,h,_⟩
  ·exact absurd h h1
  ·exact h
  omega
 by_cases hend:s≠[]/\n=0
 ·obtain⟨c,r,mH⟩:∃c r,s=c::r:=by
   cases s with
   | nil=>exact absurd rfl hend.1
   | cons c r=>exact⟨c,r,rfl⟩
  have dG:=fin hend.1 hend.2;subst mH;refine wk ?_;exact⟨by rw[dG],H.sx⟩
 have hst:=hI.step (by
  by_cases h:s=[]
  ·exact .inl h
  exact .inr (Nat.pos_of_ne_zero λe=>hend ⟨h,e⟩))
 have e0:((n:Int)/10)=((n/10:Nat):Int):=aa;have e8:bO .u8 (wr .u8 (48+(n:Int)%10))=bv (aD (48+n%10)):=by unfold bv;rw[dB aa];congr 1;show(48+(n:Int)%10)%256=_;omega
 by_cases hs0:s=[]
 ·subst hs0;refine H.wn ?_;intro w CM H;refine wk ?_;have hcl:=(H.sV).cells;rw[e8]at hcl;refine⟨[aD (48+n%10)],rfl,hcl,?_⟩;refine wk ?_;refine⟨by simp only[aq,aK]at fu |-;omega,?_⟩;refine wk ?_;refine⟨sB,(n/10,aD (48+n%10)::[]),sB,⟨by dsimp only;omega,hst,H.sx⟩,?_⟩;dsimp only;rw[ag rfl,ae ah];omega
 obtain⟨c,r,mH⟩:∃c r,s=c::r:=by
  cases s with
  | nil=>exact absurd rfl hs0
  | cons c r=>exact⟨c,r,rfl⟩
 have hn0:n≠0:=λe=>hend ⟨hs0,e⟩;subst mH;refine H.wn ?_;intro w CM H;refine wk ?_;have hcl:=(H.sV).cells;rw[e8]at hcl;refine⟨[aD (48+n%10)],rfl,hcl,?_⟩;refine wk ?_;refine⟨by simp only[aq,aK]at fu |-;omega,?_⟩;refine wk ?_;refine⟨sB,(n/10,aD (48+n%10)::(c::r)),sB,⟨by dsimp only;omega,hst,H.sx⟩,?_⟩;dsimp only;rw[ae ah,ae ah];omega
theorem ab9:Lib.decDigits 9223372036854775808=[57,50,50,51,51,55,50,48,51,54,56,53,52,55,55,53,56,48,56]:=by simp[Lib.decDigits]
theorem xC(hV:Sub V W){n:Int}(hn:cY n):aB 181 [iv n] W λv w'=>v=str (Lib.itoa n)/\Rel W V [] V w':=by
 by_cases h0:0<=n
 ·obtain⟨u,rfl⟩:∃u:Nat,n=u:=⟨n.toNat,aa⟩
  have e:Lib.itoa (u:Int)=Lib.decDigits u:=by unfold Lib.itoa;rw[ae aa,jr]
  rw[e];exact Si hV aa
 have H:=aG hV;have e:Lib.itoa n=45::Lib.decDigits n.natAbs:=by unfold Lib.itoa;rw[ag aa]
 rw[e];refine eV Tryz.func181 29 [0,2,3,5,7,17] ?_;by_cases h1:n = -9223372036854775808
 ·subst h1;refine wk ?_;refine⟨?_,H.sx⟩;rw[show(-9223372036854775808:Int).natAbs=9223372036854775808 from rfl,ab9]
 obtain⟨u,rfl⟩:∃u:Nat,n = -(u:Int):=⟨n.natAbs,aa⟩
 have qk:=Sh u aa;rw[show(-(u:Int)).natAbs=u by omega];refine wk ?_;rw[show 0 - -(u:Int)=(u:Int)by omega];refine(Si H.data (u:=u) aa).use ?_;rintro v w⟨rfl,K⟩;replace H:=Rel.call H K;simp only[aL]at H;refine wk ?_;refine⟨by simp only[aq,aK];omega,?_⟩;refine wk ?_;first|exact H.sx|exact⟨rfl,H.sx⟩
theorem T8(h:n<16):((A2.take (n+1)).drop n)=[iy n]:=by have key:∀n:Fin 16,((A2.take (n.val+1)).drop n.val)=[iy n.val]:=ai;exact key ⟨n,h⟩
theorem Ub(hV:Sub V W){n:Nat}(hn:n<256):aB 189 [iv (n:Int)] W λv w'=>v=str [iy (n/16),iy (n%16)]/\Rel W V [] V w':=by have H:=aG hV;have e1:((n:Int)/16).toNat=n/16:=aa;have e2:((n:Int)/16+1).toNat=n/16+1:=aa;have e3:((n:Int)%16).toNat=n%16:=aa;have e4:((n:Int)%16+1).toNat=n%16+1:=aa;refine eV Tryz.func189 16 [0,2] ?_;refine wk ?_;refine dV 1 [] [0,1,2,3,4,5,6,7,8,9,10,11,12,13] H ?_;intro w H;refine wk ?_;refine⟨⟨aa,by show _<=(16:Int);omega⟩,?_⟩;refine wk ?_;refine⟨⟨aa,by show _<=(16:Int);omega⟩,?_⟩;refine wk ?_;rw[e1,e2,e3,e4,T8 (n:=n/16) aa,T8 (n:=n%16) aa];refine wk ?_;refine⟨ah,?_⟩;refine wk ?_;first|exact H.sx|exact⟨rfl,H.sx⟩
theorem agY(h:k<l.length):(l.take (k+1)).drop k=[l[k]]:=by rw[bK h,List.drop_append_of_le_length (by rw[bg];omega),u4];simp
theorem Xr(hV:Sub V W){s:Sl}{b:ab}(hs:aF V s b)(hl:b.length<=100000000):aB 182 [s.v] W λq w'=>q=str (js b)/\Rel W V [] V w':=by
 have H:=aG hV;have hlen:=hs.len;have og:=hs.cap;refine eV Tryz.func182 49 [0,2,3,4,5,9,22,33] ?_;refine wk ?_;refine aP (S:=Nat×ab) al [0,2] (λk=>[(4,iv (k.1:Int)),(3,str k.2)]) (λk w'=>k.1<=b.length/\k.2=34::eF (b.take k.1)/\Rel W V [] V w') (λk _=>b.length-k.1) (0,[34]) ?_;conv=>whnf
 refine⟨sB,⟨cE _,rfl,H.sx⟩,?_⟩;clear H;rintro⟨k,t⟩w⟨hk,ht,H⟩;dsimp only at hk ht H |-;have cD:=aiA (b.take k);rw[bg]at cD;have htl:t.length<=4*b.length+1:=by rw[ht,aq];omega
 by_cases hlt:k<b.length;rotate_left
 ·rw[bJ aa]at ht;refine wk ?_;refine⟨by simp;omega,?_⟩;refine wk ?_;exact⟨by rw[ht];rfl,H.sx⟩
 obtain⟨p0,c0⟩:=hs.aR (g:=bv) (λ_=>rfl) hlt;obtain⟨c,hc⟩:∃c,c=b[k]:=⟨_,rfl⟩
 rw[<-hc]at c0;have ux:=c.toNat_lt;have hsub:=aA.sub hs (n:=1) (λ_=>rfl) (a:=k) (b:=k+1) aa aa;rw[agY hlt,<-hc]at hsub;have ke:=aiB hlt;rw[<-hc]at ke;by_cases dy:c=34
 ·have hq:jZ c=[92,c]:=zj (.inl dy);have L6:c.toNat=34:=by rw[dy];rfl
  refine wk ?_;refine⟨by simp;omega,?_⟩;refine wk ?_;refine⟨[c],ah,iu _▸(hsub.up H.data).cells,?_⟩;refine wk ?_;refine⟨by simp;omega,?_⟩;refine wk ?_;rw[ht];refine⟨sB,(k+1,34::eF (b.take (k+1))),⟨rfl,by rw[ke,hq];simp[str];rfl,trivial⟩,⟨by dsimp only;omega,rfl,H.sx⟩,by dsimp only;omega⟩
 by_cases jB:c=92
 ·have hq:jZ c=[92,c]:=zj (.inr jB);have L8:c.toNat=92:=by rw[jB];rfl
  refine wk ?_;refine⟨by simp;omega,?_⟩;refine wk ?_;refine⟨[c],ah,iu _▸(hsub.up H.data).cells,?_⟩;refine wk ?_;refine⟨by simp;omega,?_⟩;refine wk ?_;rw[ht];refine⟨sB,(k+1,34::eF (b.take (k+1))),⟨rfl,by rw[ke,hq];simp[str];rfl,trivial⟩,⟨by dsimp only;omega,rfl,H.sx⟩,by dsimp only;omega⟩
 have n34:c.toNat≠34:=λe=>dy (bL.1 e);have n92:c.toNat≠92:=λe=>jB (bL.1 e);have nq:¬(c=34\/c=92):=by rintro(h|h);exact dy h;exact jB h
 refine wk ((gd (c.toNat:Int) 32 126 _).use ?_);rintro q w'⟨rfl,rfl⟩;by_cases hsp:32<=c.toNat/\c.toNat<=126
 ·have hq:jZ c=[c]:=BZ nq (by simp[kS];omega);rw[bw aa];refine wk ?_;refine⟨[c],ah,iu _▸(hsub.up H.data).cells,?_⟩;refine wk ?_;refine⟨by simp;omega,?_⟩;refine wk ?_;rw[ht];refine⟨sB,(k+1,34::eF (b.take (k+1))),⟨rfl,by rw[ke,hq];simp[str];rfl,trivial⟩,⟨by dsimp only;omega,rfl,H.sx⟩,by dsimp only;omega⟩
 have hq:jZ c=[92,120,iy (c.toNat/16),iy (c.toNat%16)]:=B0 (by simp[kS];omega);rw[bA aa];refine wk ?_;refine⟨by simp;omega,?_⟩;refine wk ?_;refine H.us (Ub H.data (n:=c.toNat) aa) ?_;intro w H;refine wk ?_;refine⟨by simp;omega,?_⟩;refine wk ?_;rw[ht];refine⟨sB,(k+1,34::eF (b.take (k+1))),⟨rfl,by rw[ke,hq];simp[str];rfl,trivial⟩,⟨by dsimp only;omega,rfl,H.sx⟩,by dsimp only;omega⟩
theorem Cw{x:Int}(h1:9223372036854775808<=x)(h2:x<18446744073709551616):IntKind.i64.wrap x=x-18446744073709551616:=by
 have key:∀m p:Int,m=18446744073709551616->p=9223372036854775808->(if(true&&decide (x%m>=p))=true then x%m-m else x%m)=x-18446744073709551616:=by rintro m p rfl rfl;simp only[Bool.true_and,ge_iff_le,eQ];split<;>omega
 exact key (2^64) (2^63) ai ai
theorem agS(hV:Sub V W){s:ab}(hl:s.length<=1000000):aB 179 [str s] W λq w'=>∃(n:Int) (k:Bool),q=.tuple #[iv n,.bool k]/\cY n/\jN s=(if k=true then some n else none)/\Rel W V [] V w':=by
 have H:=aG hV;have hsz:(ByteArray.mk s.toArray).size=s.length:=rfl;refine eV Tryz.func179 60 [0,2,3,4,5,6,10,20,31,33,51] ?_;refine wk ?_;refine aM.cut 0 (λu:Nat=>[(0,str s),(4,.int .u64 (u:Int))]) (λu w'=>u=jz s/\u<=9223372036854775809/\Rel W V [] V w') ?_ ?_
 ·refine aP (S:=Nat×Nat) al [0,6,51] (λk=>[(4,.int .u64 (k.2:Int)),(5,iv (k.1:Int))]) (λk w'=>k.1<=s.length/\k.2=jz (s.take k.1)/\k.2<=9223372036854775809/\Rel W V [] V w') (λk _=>s.length-k.1) (0,0) ?_;conv=>whnf
  refine⟨sB,⟨cE _,rfl,ai,H.sx⟩,?_⟩;clear H;rintro⟨i,u⟩w⟨hi,hu,Ic,H⟩;dsimp only at hi hu Ic H |-;by_cases hlt:i<s.length;rotate_left
  ·rw[bJ aa]at hu;refine wk ?_;exact⟨u,sB,hu,Ic,H.sx⟩
  have UK:s[((i:Nat):Int).toNat]?=some s[i]:=by simp[hlt]
  obtain⟨c,hc⟩:∃c,c=s[i]:=⟨_,rfl⟩
  rw[<-hc]at UK;have ux:=c.toNat_lt;have yE:=Sv hlt;rw[<-hu,<-hc]at yE;by_cases h45:c=45
  ·have L7:c.toNat=45:=by rw[h45];rfl
   by_cases h0:i=0
   ·have e:nZ u c=u:=by unfold nZ;rw[ag h45]
    rw[e]at yE;refine wk ?_;exact⟨sB,(i+1,u),sB,⟨by dsimp only;omega,yE.symm,Ic,H.sx⟩,by dsimp only;omega⟩
   have hno:=Oa hlt (λh=>h0 h.1) (by rw[<-hc,h45];decide);refine wk ((gd (c.toNat:Int) 48 57 _).use ?_);rintro q w'⟨rfl,rfl⟩;rw[bA aa];refine wk ?_;exact⟨0,false,rfl,⟨ai,ai⟩,by rw[hno];rfl,H.sx⟩
  have n45:c.toNat≠45:=λe=>h45 (bL.1 e);refine wk ((gd (c.toNat:Int) 48 57 _).use ?_);rintro q w'⟨rfl,rfl⟩;by_cases hd:48<=c.toNat/\c.toNat<=57;rotate_left
  ·have hno:=Oa hlt (λh=>h45 (by rw[hc];exact h.2)) (by rw[<-hc];simp only[dQ];simp;omega);rw[bA aa];refine wk ?_;exact⟨0,false,rfl,⟨ai,ai⟩,by rw[hno];rfl,H.sx⟩
  rw[bw aa];have eO:dQ c=true:=by simp[dQ,hd]
  by_cases aen:20<s.length
  ·have hno:=agQ aen;refine wk ?_;exact⟨0,false,rfl,⟨ai,ai⟩,by rw[hno];rfl,H.sx⟩
  by_cases dz:922337203685477580<u
  ·have hno:=agO hlt (by rw[<-hc];exact eO) (by rw[<-hu];exact dz);refine wk ?_;exact⟨0,false,rfl,⟨ai,ai⟩,by rw[hno];rfl,H.sx⟩
  rw[G7 eO]at yE;refine wk ?_;have hw:wr .u64 (wr .u64 (10*(u:Int))+wr .u64 (wr .u8 ((c.toNat:Int)-48)))=((10*u+(c.toNat-48):Nat):Int):=by show((10*(u:Int))%18446744073709551616+(((c.toNat:Int)-48)%256)%18446744073709551616)%18446744073709551616=_;omega
  exact⟨sB,(i+1,10*u+(c.toNat-48)),⟨ax (λz=>some (bO .u64 z)) hw,rfl,trivial⟩,⟨by dsimp only;omega,yE.symm,by dsimp only;omega,H.sx⟩,by dsimp only;omega⟩
 clear H;rintro u w⟨hu,Ic,H⟩;cases s with
 | nil =>have k9:u=0:=hu;refine wk ?_;refine H.us (xC H.data ⟨aa,aa⟩) ?_;intro w H;refine wk ?_;refine⟨_,_,rfl,⟨aa,aa⟩,?_,H.sx⟩;exact Bu ⟨aa,aa⟩ (λh=>by cases h) (λ_ _=>by rw[<-hu])
 | cons c r =>
  have np:(c::r)[(0:Int).toNat]?=some c:=rfl;have qh:(c::r).length=r.length+1:=rfl;have ux:=c.toNat_lt;by_cases h45:c=45
  ·have L7:c.toNat=45:=by rw[h45];rfl
   have hh:(c::r).head?=some 45:=by rw[h45];rfl
   by_cases hb:u<=9223372036854775807
   ·refine wk ?_;refine H.us (xC H.data ⟨aa,aa⟩) ?_;intro w H;refine wk ?_;refine⟨_,_,rfl,⟨aa,aa⟩,?_,H.sx⟩;exact Bu ⟨aa,aa⟩ (λ_ _=>by rw[<-hu];omega) (λh _=>absurd hh h)
   by_cases hb2:u=9223372036854775808
   ·refine wk ?_;refine .inr ?_;rw[Cw aa aa];refine wk ?_;refine .inr ?_;rw[Cw aa aa];refine wk ?_;refine .inr ?_;rw[Cw aa aa];refine wk ?_;refine H.us (xC H.data ⟨aa,aa⟩) ?_;intro w H;refine wk ?_;refine⟨_,_,rfl,⟨aa,aa⟩,?_,H.sx⟩;exact Bu ⟨aa,aa⟩ (λ_ _=>by rw[<-hu];omega) (λh _=>absurd hh h)
   refine wk ?_;refine .inr ?_;rw[Cw aa aa];refine wk ?_;refine .inr ?_;rw[Cw aa aa];refine wk ?_;refine H.us (xC H.data ⟨aa,aa⟩) ?_;intro w H;refine wk ?_;refine⟨_,_,rfl,⟨aa,aa⟩,?_,H.sx⟩;exact Bu ⟨aa,aa⟩ (λ_ h=>by rw[<-hu]at h;omega) (λh _=>absurd hh h)
  have n45:c.toNat≠45:=λe=>h45 (bL.1 e);have hh:(c::r).head?≠some 45:=λe=>h45 (by simpa using e);by_cases hb:u<=9223372036854775807
  ·refine wk ?_;refine H.us (xC H.data ⟨aa,aa⟩) ?_;intro w H;refine wk ?_;refine⟨_,_,rfl,⟨aa,aa⟩,?_,H.sx⟩;exact Bu ⟨aa,aa⟩ (λh _=>absurd h hh) (λ_ _=>by rw[<-hu])
  refine wk ?_;refine .inr ?_;rw[Cw aa aa];refine wk ?_;refine H.us (xC H.data ⟨aa,aa⟩) ?_;intro w H;refine wk ?_;refine⟨_,_,rfl,⟨aa,aa⟩,?_,H.sx⟩;exact Bu ⟨aa,aa⟩ (λh _=>absurd h hh) (λ_ h=>by rw[<-hu]at h;omega)
structure aaw(W V:ad)(s:ab)(q:aj)(w':ad):Prop where
 ex:∃(V':ad) (r:Sl) (b:ab) (k:Bool),Sub V V'/\Rel W V [] V' w'/\q=.tuple #[r.v,.bool k]/\aF V' r b/\b.length<=2000000/\zJ s=(if k=true then some b else none)
theorem alS(hV:Sub V W){s:ab}(hl:s.length<=1000000):aB 178 [str s] W (aaw W V s):=by
 have H:=aG hV;have hsz:(ByteArray.mk s.toArray).size=s.length:=rfl;refine eV Tryz.func178 68 [0,2,3,4,5,6,11,17,29,37,55] ?_;refine wk ?_;replace H:=H.br 5 1;refine aM.cut 0 (λz:Sl×ab=>[(0,str s),(4,z.1.v)]) (λz w'=>gW s.tail=z.2/\z.2.length<=2000000/\Rel W V [.row z.1 5 1 (z.2.flatMap aI)] V w') ?_ ?_
 ·refine aP (S:=Nat×Sl×ab) al [0,2,3] (λk=>[(4,k.2.1.v),(5,iv (k.1:Int))]) (λk w'=>1<=k.1/\k.1<=s.length+10/\k.2.2.length<=k.1/\gW s.tail=k.2.2++gW (s.drop k.1)/\Rel W V [.row k.2.1 5 1 (k.2.2.flatMap aI)] V w') (λk _=>s.length+10-k.1) (1,⟨none,0,0⟩,[]) ?_;conv=>whnf
  refine⟨sB,⟨aQ _,by dsimp only;omega,cE _,by dsimp only;rw[aL,List.drop_one],H⟩,?_⟩;clear H;rintro⟨i,r4,out⟩w⟨om,te,dF,hu,H⟩;dsimp only at om te dF hu H |-;by_cases hlt:i+1<s.length;rotate_left
  ·have e:gW (s.drop i)=[]:=FZ (by rw[aU];omega);rw[e,aZ]at hu;refine wk ?_;exact⟨(r4,out),sB,hu,by dsimp only;omega,H⟩
  obtain⟨c,hc⟩:∃c,c=s[i]:=⟨_,rfl⟩
  obtain⟨d,hd⟩:∃d,d=s[i+1]:=⟨_,rfl⟩
  have UK:s[((i:Nat):Int).toNat]?=some c:=by simp[hc,show i<s.length by omega]
  have hsj:s[(((i:Nat):Int)+1).toNat]?=some d:=by rw[show(((i:Nat):Int)+1).toNat=i+1 by omega];simp[hd,hlt]
  have eT:s.drop i=c::d::s.drop (i+2):=by rw[dk (show i<s.length by omega),dk hlt,hc,hd]
  have ux:=c.toNat_lt;have yc:=d.toNat_lt;by_cases jB:c=92;rotate_left
  ·have n92:c.toNat≠92:=λe=>jB (bL.1 e);have hn:gW s.tail=(out++[c])++gW (s.drop (i+1)):=by rw[hu,eT,Zj jB,bj,dk hlt,<-hd];rfl
   refine H.wn ?_;intro w CM H;refine wk ?_;refine Rel.bF (f:=aI) (s:=r4) (l:=out) (x:=c) rfl (λ_=>rfl) (by simp[Value.oneCell']) H (by show(out.length+1)*1<=_;omega) aa ?_;intro r5 w H;refine wk ?_;exact⟨sB,(i+1,r5,out++[c]),sB,⟨by dsimp only;omega,by dsimp only;omega,by simp;omega,hn,H⟩,by dsimp only;omega⟩
  have L8:c.toNat=92:=by rw[jB];rfl
  by_cases Di:d=120;rotate_left
  ·have n120:d.toNat≠120:=λe=>Di (bL.1 e);have hn:gW s.tail=(out++[d])++gW (s.drop (i+2)):=by rw[hu,eT,jB,Zg Di,bj];rfl
   refine H.wn ?_;intro w b34 H;refine wk ?_;refine Rel.bF (f:=aI) (s:=r4) (l:=out) (x:=d) rfl (λ_=>rfl) (by simp[Value.oneCell']) H (by show(out.length+1)*1<=_;omega) aa ?_;intro r5 w H;refine wk ?_;exact⟨sB,(i+2,r5,out++[d]),sB,⟨by dsimp only;omega,by dsimp only;omega,by simp;omega,hn,H⟩,by dsimp only;omega⟩
  have amG:d.toNat=120:=by rw[Di];rfl
  refine wk ?_;obtain⟨G,hG0,hGs,hG⟩:∃G:Nat->ab,G 0=[]/\(∀n,n<256->G (n+1)=G n++(if i+4<s.length/\[iy (n/16),iy (n%16)]=(s.take (i+4)).drop (i+2)then[aD n]else[]))/\gW s.tail=(out++G 256)++gW (s.drop (i+4))/\∀n,(G n).length<=1:=by
   by_cases h4:i+4<s.length
   ·refine⟨td s[i+2] s[i+3],aec _ _,λn hn=>?_,?_,aea _ _⟩
    ·have e:(s.take (i+4)).drop (i+2)=[s[i+2],s[i+3]]:=by rw[bK (show i+3<s.length by omega),bK (show i+2<s.length by omega),bj,List.drop_left' (by rw[bg];omega)];rfl
     rw[aeb _ _ hn,e];simp[h4]
    have pf:s.drop (i+2)=s[i+2]::s[i+3]::s[i+4]::s.drop (i+5):=by rw[dk (show i+2<s.length by omega),dk (show i+3<s.length by omega),dk h4]
    rw[hu,eT,jB,Di,pf,Zh,ad9,dk h4,bj]
   refine⟨λ_=>[],rfl,λn _=>?_,?_,λ_=>cE _⟩
   ·rw[ae (λh=>h4 h.1)];rfl
   have hl1:=ax bU eT;rw[aU,aq,aq]at hl1;rw[hu,alO (l:=s.drop i) (by rw[aU];omega) (by rw[aU];omega) (by rw[eT,jB,Di];rfl),FZ (l:=s.drop (i+4)) (by rw[aU];omega)];simp
  obtain⟨hG,Tt⟩:=hG;refine aM.cut 2 (λz:Sl=>[(0,str s),(2,.slice none 0 0),(3,.bool false),(4,z.v),(5,iv ((i:Int)+1))]) (λz w'=>Rel W V [.row z 5 1 ((out++G 256).flatMap aI)] V w') ?_ ?_
  ·refine aP (S:=Nat×Sl) al [0,2,3,5,11,17,29] (λk=>[(4,k.2.v),(6,iv (k.1:Int))]) (λk w'=>k.1<=256/\Rel W V [.row k.2 5 1 ((out++G k.1).flatMap aI)] V w') (λk _=>256-k.1) (0,r4) ?_;conv=>whnf
   refine⟨sB,⟨cE _,by rw[hG0,aZ];exact H⟩,?_⟩;clear H;rintro⟨n,r4⟩w⟨hn,H⟩;dsimp only at hn H |-;by_cases mF:n<256;rotate_left
   ·obtain rfl:n=256:=aa;refine wk ?_;exact⟨r4,sB,H⟩
   have hst:=hGs n mF;have rD:=Tt n;by_cases h4:i+4<s.length;rotate_left
   ·rw[ae (λh=>h4 h.1),aZ]at hst;refine wk ?_;refine dV 13 [] [0,1,2,3,4,5,6,8,9,10,11,12,13,7,14,15] H ?_;intro w H;refine wk ?_;exact⟨sB,(n+1,r4),sB,⟨by dsimp only;omega,by dsimp only;rw[hst];exact H⟩,by dsimp only;omega⟩
   refine wk ?_;refine dV 13 [] [0,1,2,3,4,5,6,8,9,10,11,12,13,7,14,15] H ?_;intro w H;refine wk ((Ub H.data (n:=n) mF).use ?_);rintro v w⟨rfl,K⟩;replace H:=Rel.call H K;simp only[aL]at H;refine wk ?_;rw[show(((i:Nat):Int)+1+1).toNat=i+2 by omega,show(((i:Nat):Int)+1+3).toNat=i+4 by omega];by_cases he:[iy (n/16),iy (n%16)]=(s.take (i+4)).drop (i+2)
   ·rw[ag ⟨h4,he⟩]at hst;refine pW (bw he) ?_;refine H.wn ?_;intro w b59 H;rw[show bO .u8 (wr .u8 ((n:Nat):Int))=bv (aD n)by unfold bv;rw[dB mF];congr 1;show((n:Nat):Int)%256=_;omega]at H
    refine wk ?_;refine Rel.bF (f:=aI) (s:=r4) (l:=out++G n) (x:=aD n) rfl (λ_=>rfl) (by simp[Value.oneCell']) H (by show((out++G n).length+1)*1<=_;rw[ak];omega) (by rw[ak];omega) ?_;intro r5 w H;refine wk ?_;exact⟨sB,(n+1,r5),sB,⟨by dsimp only;omega,by dsimp only;rw[hst,<-bj];exact H⟩,by dsimp only;omega⟩
   rw[ae (λh=>he h.2),aZ]at hst;refine C1 (bA he) ?_;refine wk ?_;exact⟨sB,(n+1,r4),sB,⟨by dsimp only;omega,by dsimp only;rw[hst];exact H⟩,by dsimp only;omega⟩
  clear H;rintro r5 w H;have rD:=Tt 256;refine wk ?_;exact⟨sB,(i+4,r5,out++G 256),⟨rfl,ax (λz=>some (bO .i64 z)) (show((i:Nat):Int)+1+2+1=((i+4:Nat):Int)by omega),trivial⟩,⟨by dsimp only;omega,by dsimp only;omega,by dsimp only;rw[ak];omega,hG,H⟩,by dsimp only;omega⟩
 clear H;rintro⟨r4,out⟩w⟨hu,dF,H⟩;dsimp only at hu dF H |-;obtain⟨V1,hV1,H,hr⟩:=Rel.aJ H;refine wk ?_;refine(Xr H.data hr aa).use ?_;rintro v w⟨rfl,K⟩;replace H:=Rel.call H K;simp only[aL]at H;refine wk ?_;refine⟨V1,r4,out,_,hV1,H.sx,rfl,hr,dF,?_⟩;unfold zJ;rw[hu];simp only[eQ]
section
variable{w0 V0 V w:ad}{own:cx}
theorem Ys(ys:bf):∀u∈ys.flatMap cO,u.oneCell'=true:=by intro u hu;obtain⟨x,_,hx⟩:=List.mem_flatMap.1 hu;rw[cz.1 hx];rfl
theorem Rel.vr{s x:Sl}{ys:bf}(H:Rel w0 V0 own V w)(hi:own[i]?=some (.row s 9 1 (xs.flatMap cO)))(hx:aA cO V x ys)(hb:xs.length+ys.length<=1000000000000){ty:TypeId}{k:aj->ad->Prop}
  (hk:∀s' w',Rel w0 V0 (own.set i (.row s' 9 1 ((xs++ys).flatMap cO))) V w'->k s'.v w'):bE Tryz.prog (Builtin.append_ #[24,24] ty #[s.v,x.v]) w k:=by
 have hl:=H.dW hi (λ_=>rfl) ai;have hxl:=hx.len;refine Rel.uc al rfl rfl rfl rfl rfl ai H hi (hx.up H.data).cells (by rw[kW (n:=1) (λ_=>rfl),hxl]) (Ys ys) (by rw[hl,hxl];show(xs.length+ys.length)*16<=_;omega) (by rw[hl,hxl];omega) ?_;intro s' w' H' _;refine hk s' w' ?_;rw[cw];exact H'
theorem Rel.oV{b:Nat}{t':TypeId}{s:Sl}(ys:bf)(H:Rel w0 V0 (.ay b (ys.flatMap cO) t'::own) V w)(hi:own[i]?=some (.row s 9 1 (xs.flatMap cO)))(hn:ys.length=n)(hb:xs.length+ys.length<=1000000000000){ty:TypeId}{k:aj->ad->Prop}
  (hk:∀s' w',Rel w0 V0 (own.set i (.row s' 9 1 ((xs++ys).flatMap cO))) V w'->k s'.v w'):bE Tryz.prog (Builtin.append_ #[24,24] ty #[s.v,.slice (some ⟨b,0,none⟩) n n]) w k:=by
 subst hn;have hx:Cells w (some ⟨b,0,none⟩) (ys.flatMap cO):=(H.sV).cells;have hl:=H.pY.dW hi (λ_=>rfl) ai;refine Rel.uc (x:=⟨some ⟨b,0,none⟩,ys.length,ys.length⟩) al rfl rfl rfl rfl rfl ai H (i:=i+1) (by simpa using hi) hx (by rw[kW (n:=1) (λ_=>rfl)]) (Ys ys) (by rw[hl];show(xs.length+ys.length)*16<=_;omega) (by rw[hl];show xs.length+ys.length<=_;omega) ?_;intro s' w' H' _;refine hk s' w' ?_;rw[cw];exact Rel.pY (by simpa using H')
end
structure aas(W V:ad)(ts bs:bf)(q:aj)(w':ad):Prop where
 ex:∃(V':ad) (x y:Sl),Sub V V'/\Rel W V [.row x 9 1 (ts.flatMap cO),.row y 9 1 (bs.flatMap cO)] V' w'/\q=.tuple #[x.v,y.v]
theorem YO{k:Int}{s:bf}{p:ao}:(fW k s i p).length=(if i=0 then 0 else 1)+((if k=4 then 2 else 0)+(dp p).length):=by
 unfold fW;rw[ak,ak];congr 1
 ·split<;>rfl
 congr 1;split<;>rfl
theorem ak7:∀(N:Nat) {V W:ad},Sub V W->∀ {h:VH} {v:ao} (sp:Bool),SizeOf.sizeOf v<N->cb V h v->VB 1048576 v->gY v->(dp v).length<=1000000 ->
  aB 100 [gw h,str (ju sp)] W (aas W V (dp v) (gx sp (dp v))):=by
 intro N;induction N with
 | zero=>intro V W _ h v sp hz;omega
 | succ N ih =>
  intro V W hV h v sp hz hv hB hw hM;have H:=aG hV;have l3:=hv.uW;have hpl:=hB.parts;have hns:=hv.names;have yr:=hB.num;have hbl:=hB.bytes;have he:=vd v;have e1:=hv.kind;have e2:=hv.num;obtain⟨hk,hn,bs,ss,pl⟩:=h;have l2:=hns.len;dsimp only at e1 e2 l2 l3 hns;subst e1 e2;have l6:=hv.bytes;change aB 100 [.agg [iv v.kind,iv v.num,bs.v,ss.v,pl.v].toArray,str (ju sp)] W _;refine eV Tryz.func100 92 [0,1,2,4,5,6,7,8,9,10,11,12,13,16,25,34,43,47,56] ?_;refine H.wn ?_;intro w b2 H;obtain⟨V1,hV1,H,hb2⟩:=H.cU;have c0:V1.cell? ⟨b2,0,none⟩=some (iv v.kind):=hb2.cS rfl;have c1:V1.cell? ⟨b2,1,none⟩=some (iv v.num):=hb2.cS rfl;have c2:V1.cell? ⟨b2,2,none⟩=some bs.v:=hb2.cS rfl;have c3:V1.cell? ⟨b2,3,none⟩=some ss.v:=hb2.cS rfl;have c4:V1.cell? ⟨b2,4,none⟩=some pl.v:=hb2.cS rfl;replace hv:=hv.up hV1;replace hns:=hns.up hV1;replace l6:=l6.up hV1;by_cases k1:v.kind=1
  ·rw[ag k1]at he;rw[he];refine wk ((xC H.data yr).use ?_);rintro q w⟨rfl,K⟩;replace H:=Rel.call H K;simp only[aL]at H;refine H.wn ?_;intro w QX H;refine H.wn ?_;intro w CM H;refine wk ?_;have H2:Rel W V [.row ⟨some ⟨CM,0,none⟩,1,1⟩ 9 1 ([ju sp].flatMap cO),.ay QX [str (Lib.itoa v.num)] 9] V1 w:=Rel.gh (l:=[ju sp].flatMap cO) H.sx rfl ai;have H3:=H2.perm (List.Perm.swap _ _ _);have H4:Rel W V [.row ⟨some ⟨QX,0,none⟩,1,1⟩ 9 1 ([Lib.itoa v.num].flatMap cO),.row ⟨some ⟨CM,0,none⟩,1,1⟩ 9 1 ([ju sp].flatMap cO)] V1 w:=Rel.gh (l:=[Lib.itoa v.num].flatMap cO) H3 rfl ai;exact⟨V1,_,_,hV1,H4,rfl⟩
  rw[ae k1]at he;by_cases k2:v.kind=2
  ·rw[ag k2]at he;rw[he];refine wk ?_;refine(Xr H.data l6 aa).use ?_;rintro q w⟨rfl,K⟩;replace H:=Rel.call H K;simp only[aL]at H;refine H.wn ?_;intro w QY H;refine H.wn ?_;intro w Aj H;refine wk ?_;have H2:Rel W V [.row ⟨some ⟨Aj,0,none⟩,1,1⟩ 9 1 ([ju sp].flatMap cO),.ay QY [str (js v.bytes)] 9] V1 w:=Rel.gh (l:=[ju sp].flatMap cO) H.sx rfl ai;have H3:=H2.perm (List.Perm.swap _ _ _);have H4:Rel W V [.row ⟨some ⟨QY,0,none⟩,1,1⟩ 9 1 ([js v.bytes].flatMap cO),.row ⟨some ⟨Aj,0,none⟩,1,1⟩ 9 1 ([ju sp].flatMap cO)] V1 w:=Rel.gh (l:=[js v.bytes].flatMap cO) H3 rfl ai;exact⟨V1,_,_,hV1,H4,rfl⟩
  rw[ae k2]at he;rw[he]at hM |-;rw[aq,ak,bT]at hM;have UU:=hw.part;by_cases k4:v.kind=4
  ·have eo:ko v.kind=[123]:=by rw[ko,ag k4]
   have ee:gG v.kind=[125]:=by rw[gG,ag k4]
   obtain⟨hnl,hna⟩:v.names.length=v.parts.length/\∀x∈v.names,cX x=true:=by
    cases hw with
    | num _=>exact absurd k4 (show ¬(1:Int)=4 by decide)
    | j4 _=>exact absurd k4 (show ¬(2:Int)=4 by decide)
    | uO _=>exact absurd k4 (show ¬(3:Int)=4 by decide)
    | u5 h1 h2 _=>exact⟨h2,h1⟩
   rw[eo,ee];refine H.wn ?_;intro w xm H;refine H.wn ?_;intro w xo H;refine wk ?_;have H2:Rel W V [.row ⟨some ⟨xo,0,none⟩,1,1⟩ 9 1 ([ju sp].flatMap cO),.ay xm [str [123]] 9] V1 w:=Rel.gh (l:=[ju sp].flatMap cO) H.sx rfl ai;have H3:=H2.perm (List.Perm.swap _ _ _);have H4:Rel W V [.row ⟨some ⟨xm,0,none⟩,1,1⟩ 9 1 ([[123]].flatMap cO),.row ⟨some ⟨xo,0,none⟩,1,1⟩ 9 1 ([ju sp].flatMap cO)] V1 w:=Rel.gh (l:=[[123]].flatMap cO) H3 rfl ai;clear H H2 H3;refine aP (S:=Nat×Sl×Sl) al [0,1,2,4,5,6,7,16,25,34] (λk=>[(8,k.2.1.v),(9,k.2.2.v),(10,iv (k.1:Int))]) (λk w'=>k.1<=v.parts.length/\∃V',Sub V1 V'/\Rel W V [.row k.2.1 9 1 (([123]::eG v.kind v.names (v.parts.take k.1)).flatMap cO),.row k.2.2 9 1 ((gx sp ([123]::eG v.kind v.names (v.parts.take k.1))).flatMap cO)] V' w') (λk _=>v.parts.length-k.1) (0,⟨some ⟨xm,0,none⟩,1,1⟩,⟨some ⟨xo,0,none⟩,1,1⟩) ?_;conv=>whnf
   refine⟨sB,⟨cE _,V1,aS _,by dsimp only;rw[kM,FT];exact H4⟩,?_⟩;clear H4;rintro⟨k,r8,r9⟩w⟨hk,V2,hV2,H⟩;dsimp only at hk H |-;obtain⟨T,hT⟩:∃T,T=[123]::eG v.kind v.names (v.parts.take k):=⟨_,rfl⟩
   obtain⟨B,uu⟩:∃B,B=gx sp T:=⟨_,rfl⟩
   rw[<-hT,<-uu]at H;have L9:B.length=T.length:=by rw[uu,sO]
   have d0:=hV2.cell c0;have d3:=hV2.cell c3;have d4:=hV2.cell c4;by_cases hlt:k<v.parts.length;rotate_left
   ·rw[bJ aa]at hT;have uw:=ax bU hT;rw[aq]at uw;refine H.wn ?_;intro w b87 H;refine wk ?_;refine Rel.oV (i:=0) (s:=r8) (xs:=T) [[125]] H rfl rfl (by simp only[aq,aK];omega) ?_;intro r8 w H;simp only[bH]at H;refine H.wn ?_;intro w b90 H;refine wk ?_;refine Rel.oV (i:=1) (s:=r9) (xs:=B) [[]] H rfl rfl (by simp only[aq,aK];omega) ?_;intro r9 w H;simp only[bH,fa]at H;refine wk ?_;have ew:=ZG v.kind v.names sp v.parts;rw[eo,ee,<-hT,<-uu]at ew;refine⟨V2,r8,r9,hV1.trans hV2,?_,rfl⟩;rw[ew,<-bb,<-hT];exact H
   obtain⟨R,hsp⟩:=Wp hlt;obtain⟨hq,x,hx,q0,q1,q2,q3,q4⟩:=(hv.up hV2).wu hlt;have hmem:=bS hlt;have et:fW v.kind v.names k v.parts[k]=(if k=0 then[]else[[44]])++((if v.kind=4 then[v.names.getD k [],[58]]else[])++dp v.parts[k]):=rfl;have eb:=ZH v.kind v.names k v.parts[k] (λh4=>by rw[List.getD,List.getElem?_eq_getElem (show k<v.names.length by omega)];exact hna _ (bS _))
   have jT:=Cn v.kind v.names (v.parts.take k) v.parts[k];have hn2:=ZI v.kind v.names sp (v.parts.take k) v.parts[k];rw[<-bK hlt,bg,show min k v.parts.length=k by omega]at jT hn2;rw[eo,<-hT,<-uu]at hn2;replace jT:[123]::eG v.kind v.names (v.parts.take (k+1))=T++fW v.kind v.names k v.parts[k]:=by rw[jT,hT];rfl
   have uw:=ax bU hT;have Eg:=ax bU hsp;have htl:=YO (k:=v.kind) (s:=v.names) (i:=k) (p:=v.parts[k]);rw[aq]at uw;rw[ak,ak]at Eg;have fu:=ao.wA hmem;have yw:=hB.part _ hmem;have hpw:=UU _ hmem;obtain⟨p,th⟩:∃p,p=v.parts[k]:=⟨_,rfl⟩
   rw[<-th]at et eb jT hn2 hx Eg htl fu yw hpw;have s7:T.length+(dp p).length+10<=1000100:=aa;have D1:(dp p).length<=1000000:=aa;rw[ag k4]at et eb;have uB:k<v.names.length:=aa;have yg:v.names.getD k []=v.names[k]:=by simp[List.getD,uB]
   rw[yg]at et;obtain⟨vU,D6⟩:=(hns.up hV2).oa (g:=str) (λ_=>rfl) uB;have Mx:(decide (k≠0)||decide (v.kind=4))=true:=by rw[bw k4];simp
   rw[Mx]at eb;by_cases h0:k=0
   ·rw[ag h0]at et eb;rw[show decide (k≠0)=false by simp[h0],show ju false=[]from rfl]at eb;refine H.wn ?_;intro w b63 H;refine wk ?_;refine Rel.oV (i:=0) (s:=r8) (xs:=T) [v.names[k],[58]] H rfl rfl (by simp only[aq,aK];omega) ?_;intro r8 w H;simp only[bH]at H;refine H.wn ?_;intro w b67 H;refine wk ?_;refine Rel.oV (i:=1) (s:=r9) (xs:=B) [[],[]] H rfl rfl (by simp only[aq,aK];omega) ?_;intro r9 w H;simp only[bH,fa]at H;refine wk ?_;refine(ih H.data (h:=x) (v:=p) true aa hx yw hpw D1).use ?_;rintro q w⟨V5,x5,y5,aN,K,rfl⟩;replace H:=H.cq K;obtain⟨V6,bC,H,nB⟩:=Rel.aJ H;obtain⟨V7,fH,H,yL⟩:=Rel.aJ H;replace nB:=nB.up fH;have o9:=((hV2.trans aN).trans bC).trans fH;have Ny:(gx true (dp p)).length=(dp p).length:=sO _ _;refine wk ?_;refine Rel.vr (i:=0) (s:=r8) (x:=x5) (xs:=(T++[v.names[k],[58]])) H rfl nB (by first|omega|(simp only[ak,aq,aK];omega)) ?_;intro r8 w H;simp only[bH]at H;refine wk ?_;refine Rel.vr (i:=1) (s:=r9) (x:=y5) (xs:=(B++[[],[]])) H rfl yL (by first|omega|(simp only[ak,aq,aK];omega)) ?_;intro r9 w H;simp only[bH,fa]at H;refine wk ?_;refine⟨sB,(k+1,r8,r9),sB,⟨by dsimp only;omega,V7,o9,?_⟩,by dsimp only;omega⟩;dsimp only;rw[hn2,jT,eb,et];simpa only[bj,aL]using H
   rw[ae h0]at et eb;rw[show decide (k≠0)=true by simp[h0],show ju true=[32]from rfl]at eb;refine H.wn ?_;intro w Q1 H;refine wk ?_;refine Rel.oV (i:=0) (s:=r8) (xs:=T) [[44]] H rfl rfl (by simp only[aq,aK];omega) ?_;intro r8 w H;simp only[bH]at H;refine H.wn ?_;intro w b52 H;refine wk ?_;refine Rel.oV (i:=1) (s:=r9) (xs:=B) [[]] H rfl rfl (by simp only[aq,aK];omega) ?_;intro r9 w H;simp only[bH,fa]at H;refine H.wn ?_;intro w b63 H;refine wk ?_;refine Rel.oV (i:=0) (s:=r8) (xs:=(T++[[44]])) [v.names[k],[58]] H rfl rfl (by simp only[ak,aq,aK];omega) ?_;intro r8 w H;simp only[bH]at H;refine H.wn ?_;intro w b67 H;refine wk ?_;refine Rel.oV (i:=1) (s:=r9) (xs:=(B++[[]])) [[32],[]] H rfl rfl (by simp only[ak,aq,aK];omega) ?_;intro r9 w H;simp only[bH,fa]at H;refine wk ?_;refine(ih H.data (h:=x) (v:=p) true aa hx yw hpw D1).use ?_;rintro q w⟨V5,x5,y5,aN,K,rfl⟩;replace H:=H.cq K;obtain⟨V6,bC,H,nB⟩:=Rel.aJ H;obtain⟨V7,fH,H,yL⟩:=Rel.aJ H;replace nB:=nB.up fH;have o9:=((hV2.trans aN).trans bC).trans fH;have Ny:(gx true (dp p)).length=(dp p).length:=sO _ _;refine wk ?_;refine Rel.vr (i:=0) (s:=r8) (x:=x5) (xs:=(T++[[44]]++[v.names[k],[58]])) H rfl nB (by first|omega|(simp only[ak,aq,aK];omega)) ?_;intro r8 w H;simp only[bH]at H;refine wk ?_;refine Rel.vr (i:=1) (s:=r9) (x:=y5) (xs:=(B++[[]]++[[32],[]])) H rfl yL (by first|omega|(simp only[ak,aq,aK];omega)) ?_;intro r9 w H;simp only[bH,fa]at H;refine wk ?_;refine⟨sB,(k+1,r8,r9),sB,⟨by dsimp only;omega,V7,o9,?_⟩,by dsimp only;omega⟩;dsimp only;rw[hn2,jT,eb,et];simpa only[bj,aL]using H
  have eo:ko v.kind=[91]:=by rw[ko,ae k4]
  have ee:gG v.kind=[93]:=by rw[gG,ae k4]
  rw[eo,ee];refine H.wn ?_;intro w xm H;refine H.wn ?_;intro w xo H;refine wk ?_;have H2:Rel W V [.row ⟨some ⟨xo,0,none⟩,1,1⟩ 9 1 ([ju sp].flatMap cO),.ay xm [str [91]] 9] V1 w:=Rel.gh (l:=[ju sp].flatMap cO) H.sx rfl ai;have H3:=H2.perm (List.Perm.swap _ _ _);have H4:Rel W V [.row ⟨some ⟨xm,0,none⟩,1,1⟩ 9 1 ([[91]].flatMap cO),.row ⟨some ⟨xo,0,none⟩,1,1⟩ 9 1 ([ju sp].flatMap cO)] V1 w:=Rel.gh (l:=[[91]].flatMap cO) H3 rfl ai;clear H H2 H3;refine aP (S:=Nat×Sl×Sl) al [0,1,2,4,5,6,7,16,25,34] (λk=>[(8,k.2.1.v),(9,k.2.2.v),(10,iv (k.1:Int))]) (λk w'=>k.1<=v.parts.length/\∃V',Sub V1 V'/\Rel W V [.row k.2.1 9 1 (([91]::eG v.kind v.names (v.parts.take k.1)).flatMap cO),.row k.2.2 9 1 ((gx sp ([91]::eG v.kind v.names (v.parts.take k.1))).flatMap cO)] V' w') (λk _=>v.parts.length-k.1) (0,⟨some ⟨xm,0,none⟩,1,1⟩,⟨some ⟨xo,0,none⟩,1,1⟩) ?_;conv=>whnf
  refine⟨sB,⟨cE _,V1,aS _,by dsimp only;rw[kM,FT];exact H4⟩,?_⟩;clear H4;rintro⟨k,r8,r9⟩w⟨hk,V2,hV2,H⟩;dsimp only at hk H |-;obtain⟨T,hT⟩:∃T,T=[91]::eG v.kind v.names (v.parts.take k):=⟨_,rfl⟩
  obtain⟨B,uu⟩:∃B,B=gx sp T:=⟨_,rfl⟩
  rw[<-hT,<-uu]at H;have L9:B.length=T.length:=by rw[uu,sO]
  have d0:=hV2.cell c0;have d3:=hV2.cell c3;have d4:=hV2.cell c4;by_cases hlt:k<v.parts.length;rotate_left
  ·rw[bJ aa]at hT;have uw:=ax bU hT;rw[aq]at uw;refine H.wn ?_;intro w b87 H;refine wk ?_;refine Rel.oV (i:=0) (s:=r8) (xs:=T) [[93]] H rfl rfl (by simp only[aq,aK];omega) ?_;intro r8 w H;simp only[bH]at H;refine H.wn ?_;intro w b90 H;refine wk ?_;refine Rel.oV (i:=1) (s:=r9) (xs:=B) [[]] H rfl rfl (by simp only[aq,aK];omega) ?_;intro r9 w H;simp only[bH,fa]at H;refine wk ?_;have ew:=ZG v.kind v.names sp v.parts;rw[eo,ee,<-hT,<-uu]at ew;refine⟨V2,r8,r9,hV1.trans hV2,?_,rfl⟩;rw[ew,<-bb,<-hT];exact H
  obtain⟨R,hsp⟩:=Wp hlt;obtain⟨hq,x,hx,q0,q1,q2,q3,q4⟩:=(hv.up hV2).wu hlt;have hmem:=bS hlt;have et:fW v.kind v.names k v.parts[k]=(if k=0 then[]else[[44]])++((if v.kind=4 then[v.names.getD k [],[58]]else[])++dp v.parts[k]):=rfl;have eb:=ZH v.kind v.names k v.parts[k] (λh4=>by exact absurd h4 k4)
  have jT:=Cn v.kind v.names (v.parts.take k) v.parts[k];have hn2:=ZI v.kind v.names sp (v.parts.take k) v.parts[k];rw[<-bK hlt,bg,show min k v.parts.length=k by omega]at jT hn2;rw[eo,<-hT,<-uu]at hn2;replace jT:[91]::eG v.kind v.names (v.parts.take (k+1))=T++fW v.kind v.names k v.parts[k]:=by rw[jT,hT];rfl
  have uw:=ax bU hT;have Eg:=ax bU hsp;have htl:=YO (k:=v.kind) (s:=v.names) (i:=k) (p:=v.parts[k]);rw[aq]at uw;rw[ak,ak]at Eg;have fu:=ao.wA hmem;have yw:=hB.part _ hmem;have hpw:=UU _ hmem;obtain⟨p,th⟩:∃p,p=v.parts[k]:=⟨_,rfl⟩
  rw[<-th]at et eb jT hn2 hx Eg htl fu yw hpw;have s7:T.length+(dp p).length+10<=1000100:=aa;have D1:(dp p).length<=1000000:=aa;rw[ae k4]at et eb;by_cases h0:k=0
  ·rw[ag h0]at et eb;rw[show(decide (k≠0)||decide (v.kind=4))=false by rw[bA k4];simp[h0]]at eb;refine wk ?_;refine(ih H.data (h:=x) (v:=p) false aa hx yw hpw D1).use ?_;rintro q w⟨V5,x5,y5,aN,K,rfl⟩;replace H:=H.cq K;obtain⟨V6,bC,H,nB⟩:=Rel.aJ H;obtain⟨V7,fH,H,yL⟩:=Rel.aJ H;replace nB:=nB.up fH;have o9:=((hV2.trans aN).trans bC).trans fH;have Ny:(gx false (dp p)).length=(dp p).length:=sO _ _;refine wk ?_;refine Rel.vr (i:=0) (s:=r8) (x:=x5) (xs:=T) H rfl nB (by first|omega|(simp only[ak,aq,aK];omega)) ?_;intro r8 w H;simp only[bH]at H;refine wk ?_;refine Rel.vr (i:=1) (s:=r9) (x:=y5) (xs:=B) H rfl yL (by first|omega|(simp only[ak,aq,aK];omega)) ?_;intro r9 w H;simp only[bH,fa]at H;refine wk ?_;refine⟨sB,(k+1,r8,r9),sB,⟨by dsimp only;omega,V7,o9,?_⟩,by dsimp only;omega⟩;dsimp only;rw[hn2,jT,eb,et];simpa only[bj,aL]using H
  rw[ae h0]at et eb;rw[show(decide (k≠0)||decide (v.kind=4))=true by simp[h0]]at eb;refine H.wn ?_;intro w Q1 H;refine wk ?_;refine Rel.oV (i:=0) (s:=r8) (xs:=T) [[44]] H rfl rfl (by simp only[aq,aK];omega) ?_;intro r8 w H;simp only[bH]at H;refine H.wn ?_;intro w b52 H;refine wk ?_;refine Rel.oV (i:=1) (s:=r9) (xs:=B) [[]] H rfl rfl (by simp only[aq,aK];omega) ?_;intro r9 w H;simp only[bH,fa]at H;refine wk ?_;refine(ih H.data (h:=x) (v:=p) true aa hx yw hpw D1).use ?_;rintro q w⟨V5,x5,y5,aN,K,rfl⟩;replace H:=H.cq K;obtain⟨V6,bC,H,nB⟩:=Rel.aJ H;obtain⟨V7,fH,H,yL⟩:=Rel.aJ H;replace nB:=nB.up fH;have o9:=((hV2.trans aN).trans bC).trans fH;have Ny:(gx true (dp p)).length=(dp p).length:=sO _ _;refine wk ?_;refine Rel.vr (i:=0) (s:=r8) (x:=x5) (xs:=(T++[[44]])) H rfl nB (by first|omega|(simp only[ak,aq,aK];omega)) ?_;intro r8 w H;simp only[bH]at H;refine wk ?_;refine Rel.vr (i:=1) (s:=r9) (x:=y5) (xs:=(B++[[]])) H rfl yL (by first|omega|(simp only[ak,aq,aK];omega)) ?_;intro r9 w H;simp only[bH,fa]at H;refine wk ?_;refine⟨sB,(k+1,r8,r9),sB,⟨by dsimp only;omega,V7,o9,?_⟩,by dsimp only;omega⟩;dsimp only;rw[hn2,jT,eb,et];simpa only[bj,aL]using H
theorem afd(hV:Sub V W)(c:UInt8):aB 176 [bv c] W λv w'=>v=.bool (bB c)/\Rel W V [] V w':=by
 have H:=aG hV;refine eV Tryz.func176 17 [0,2] ?_;by_cases h1:c=32
 ·subst h1;refine wk ?_;first|exact H.sx|exact⟨rfl,H.sx⟩
 by_cases h2:c=9
 ·subst h2;refine wk ?_;first|exact H.sx|exact⟨rfl,H.sx⟩
 by_cases h3:c=13
 ·subst h3;refine wk ?_;first|exact H.sx|exact⟨rfl,H.sx⟩
 by_cases h4:c=10
 ·subst h4;refine wk ?_;first|exact H.sx|exact⟨rfl,H.sx⟩
 have h1':c.toNat≠32:=λe=>h1 (bL.1 e);have Dj:c.toNat≠9:=λe=>h2 (bL.1 e);have h3':c.toNat≠13:=λe=>h3 (bL.1 e);have h4':c.toNat≠10:=λe=>h4 (bL.1 e);refine wk ?_;exact⟨by simp[bB,h1,h2,h3,h4];omega,H.sx⟩
def mc(l:ab):Option Nat:=(kz l).map λx=>x.1.length
theorem afv :mc (92::d::r)=(mc r).map (2+·):=by unfold mc;rw[kz,ag rfl,tC,tC];congr 1;funext x;simp only[Function.comp,aq];omega
theorem afx:mc (34::r)=some 1:=by
 cases r with
 | nil=>rfl
 | cons d r=>unfold mc;rw[kz,ae ai,ag rfl];rfl
theorem afw(h1:c≠92)(h2:c≠34){r:ab}:mc (c::r)=(mc r).map (1+·):=by
 cases r with
 | nil =>
  have:kz [c]=none:=by unfold kz;rw[ae h1,ae h2]
  unfold mc;rw[this];rfl
 | cons d r =>unfold mc;rw[kz,ae h1,ae h2,tC,tC];congr 1;funext x;simp only[Function.comp,aq];omega
def s5(l:ab)(p:Nat):Int:=match zA (l.drop p)with
 | none => -1
 | some x=>((p+x.1.length:Nat):Int)
theorem ak6(hV:Sub V W){s:Sl}{l:ab}(hs:aF V s l)(hl:l.length<=1000000){p:Nat}(hp:p<l.length):aB 177 [s.v,iv (p:Int)] W λv w'=>v=iv (s5 l p)/\Rel W V [] V w':=by
 have H:=aG hV;have hlen:=hs.len;obtain⟨p0,c0⟩:=hs.aR (g:=bv) (λ_=>rfl) hp;obtain⟨c,hc⟩:∃c,c=l[p]:=⟨_,rfl⟩
 have eT:l.drop p=c::l.drop (p+1):=by rw[hc,dk hp]
 rw[<-hc]at c0;have ux:=c.toNat_lt;refine eV Tryz.func177 107 [0,1,4,5,6,7,8,9,10,37,41,47,54,61,70,100,105] ?_;by_cases hsg:lu c=true
 ·rcases JO hsg with hc2|hc2|hc2|hc2|hc2|hc2
  all_goals
   rw[hc2]at c0;refine wk ?_;first|exact H.sx|exact⟨by rw[s5,eT,zC,ag (by rw[hc2];decide)];simp,H.sx⟩
 have n1:c.toNat≠91:=λe=>hsg (by rw[bL.1 (show c.toNat=(91:UInt8).toNat from e)];decide);have n2:c.toNat≠93:=λe=>hsg (by rw[bL.1 (show c.toNat=(93:UInt8).toNat from e)];decide);have n3:c.toNat≠123:=λe=>hsg (by rw[bL.1 (show c.toNat=(123:UInt8).toNat from e)];decide);have n4:c.toNat≠125:=λe=>hsg (by rw[bL.1 (show c.toNat=(125:UInt8).toNat from e)];decide);have n5:c.toNat≠44:=λe=>hsg (by rw[bL.1 (show c.toNat=(44:UInt8).toNat from e)];decide);have n6:c.toNat≠58:=λe=>hsg (by rw[bL.1 (show c.toNat=(58:UInt8).toNat from e)];decide);by_cases dy:c=34
 ·have eE:s5 l p=match mc (l.drop (p+1))with
    | none => -1
    | some n=>((p+1+n:Nat):Int):=by
   rw[s5,eT,zC,ae hsg,ag dy,mc];cases kz (l.drop (p+1))with
   | none=>rfl
   | some x =>simp only[gQ,aq];congr 1;omega
  rw[eE];subst dy;refine wk ?_;refine aP (S:=Nat) al [0,1,5,7,8,9,10,37,41,70,100,105] (λi=>[(6,iv (i:Int))]) (λi w'=>p+1<=i/\i<=l.length+1/\mc (l.drop (p+1))=(mc (l.drop i)).map ((i-(p+1))+·)/\Rel W V [] V w') (λi _=>l.length+1-i) (p+1) ?_;conv=>whnf
  refine⟨sB,⟨aQ _,aa,?_,H.sx⟩,?_⟩
  ·cases mc (l.drop (p+1))with
   | none=>rfl
   | some n=>simp
  clear H;rintro i w⟨om,te,hle,H⟩;by_cases hlt:i<l.length;rotate_left
  ·have:mc (l.drop i)=none:=by rw[sb aa];rfl
   rw[hle,this];refine wk ?_;first|exact H.sx|exact⟨rfl,H.sx⟩
  obtain⟨p1,c1⟩:=hs.aR (g:=bv) (λ_=>rfl) hlt;obtain⟨x,hx⟩:∃x,x=l[i]:=⟨_,rfl⟩
  have ri:l.drop i=x::l.drop (i+1):=by rw[hx,dk hlt]
  rw[<-hx]at c1;have rJ:=x.toNat_lt;by_cases jB:x=92
  ·subst jB;have hst:mc (l.drop i)=(mc (l.drop (i+2))).map (2+·):=by
    by_cases h2:i+1<l.length
    ·rw[ri,dk h2,afv]
    rw[ri,sb (show l.length<=i+1 by omega),sb (show l.length<=i+2 by omega)];rfl
   refine wk ?_;refine⟨sB,i+2,sB,⟨aa,aa,?_,H.sx⟩,aa⟩;rw[hle,hst,tC];congr 1;funext n;simp only[Function.comp];omega
  have L8:x.toNat≠92:=λe=>jB (bL.1 e);by_cases dy:x=34
  ·subst dy;rw[hle,ri,afx];refine wk ?_;refine⟨?_,H.sx⟩;simp only[gQ];exact ax iv (show((i:Int)+1)=((p+1+(i-(p+1)+1):Nat):Int)by omega)
  have L6:x.toNat≠34:=λe=>dy (bL.1 e);refine wk ?_;refine⟨sB,i+1,sB,⟨aa,aa,?_,H.sx⟩,aa⟩;rw[hle,ri,afw jB dy,tC];congr 1;funext n;simp only[Function.comp];omega
 have n7:c.toNat≠34:=λe=>dy (bL.1 e);obtain⟨wd,Bf⟩:∃wd,wd=lX c:=⟨_,rfl⟩
 have aeQ:decide ((97:Int)<=(c.toNat:Int)/\(c.toNat:Int)<=122)=wd:=by rw[Bf,Bool.eq_iff_iff];simp[lX];omega
 have eE:s5 l p=if(l.drop p).takeWhile (fy wd)=[]then -1 else((p+((l.drop p).takeWhile (fy wd)).length:Nat):Int):=by
  rw[s5,eT,zC,ae hsg,ae dy,<-Bf];by_cases kh:(c::l.drop (p+1)).takeWhile (fy wd)=[]
  ·rw[ag kh,ag kh]
  rw[ae kh,ae kh]
 rw[eE];refine wk ((gd (c.toNat:Int) 97 122 _).use ?_);rintro q w'⟨rfl,rfl⟩;rw[aeQ];refine wk ?_;refine aM.cut 2 (λj:Nat=>[(1,iv (p:Int)),(8,iv ((p+j:Nat):Int))]) (λj w'=>p+j<=l.length/\(∀y∈(l.drop p).take j,fy wd y=true)/\(∀h:p+j<l.length,fy wd l[p+j]=false)/\Rel W V [] V w') ?_ ?_
 ·refine aP (S:=Nat) al [0,1,4,5,6,7,37,41,47,54,61,105] (λj=>[(8,iv ((p+j:Nat):Int))]) (λj w'=>p+j<=l.length/\(∀y∈(l.drop p).take j,fy wd y=true)/\Rel W V [] V w') (λj _=>l.length-(p+j)) 0 ?_;conv=>whnf
  refine⟨sB,⟨aa,ah,H.sx⟩,?_⟩;clear H;rintro j w⟨hj,hall,H⟩;by_cases hlt:p+j<l.length;rotate_left
  ·refine wk ?_;exact⟨j,sB,hj,hall,λh=>absurd h hlt,H.sx⟩
  obtain⟨p1,c1⟩:=hs.aR (g:=bv) (λ_=>rfl) hlt;obtain⟨x,hx⟩:∃x,x=l[p+j]:=⟨_,rfl⟩
  rw[<-hx]at c1;have rJ:=x.toNat_lt;refine wk ((gd (x.toNat:Int) 48 57 _).use ?_);rintro q w'⟨rfl,rfl⟩;by_cases hd:48<=x.toNat/\x.toNat<=57
  ·have hw:fy wd x=true:=by simp[fy,dQ,hd]
   rw[bw aa];refine wk ?_;refine⟨sB,j+1,sB,⟨aa,λy hy=>?_,H.sx⟩,aa⟩;rw[bK (by rw[aU];omega),wL]at hy;rcases cc.1 hy with hy|hy
   ·exact hall y hy
   rw[cz.1 hy,<-hx];exact hw
  rw[bA aa];by_cases h45:x=45
  ·have hw:fy wd x=true:=by simp[fy,h45]
   have L7:x.toNat=45:=by rw[h45];rfl
   refine wk ?_;refine⟨sB,j+1,sB,⟨aa,λy hy=>?_,H.sx⟩,aa⟩;rw[bK (by rw[aU];omega),wL]at hy;rcases cc.1 hy with hy|hy
   ·exact hall y hy
   rw[cz.1 hy,<-hx];exact hw
  have L7:x.toNat≠45:=λe=>h45 (bL.1 e);have eO:dQ x=false:=by simp only[dQ];simp;omega
  cases wd with
  | false =>
   have hw:fy false x=false:=by simp[fy,eO,h45]
   refine wk ?_;exact⟨j,sB,hj,hall,λh=>by rw[<-hx];exact hw,H.sx⟩
  | true =>
   refine wk ((gd (x.toNat:Int) 97 122 _).use ?_);rintro q w'⟨rfl,rfl⟩;by_cases Mp:97<=x.toNat/\x.toNat<=122
   ·have hw:fy true x=true:=by simp[fy,lX,Mp]
    rw[bw aa];refine wk ?_;refine⟨sB,j+1,sB,⟨aa,λy hy=>?_,H.sx⟩,aa⟩;rw[bK (by rw[aU];omega),wL]at hy;rcases cc.1 hy with hy|hy
    ·exact hall y hy
    rw[cz.1 hy,<-hx];exact hw
   rw[bA aa];have adO:lX x=false:=by simp only[lX];simp;omega
   by_cases Hp:x=95
   ·have hw:fy true x=true:=by simp[fy,Hp]
    have adB:x.toNat=95:=by rw[Hp];rfl
    refine wk ?_;refine⟨sB,j+1,sB,⟨aa,λy hy=>?_,H.sx⟩,aa⟩;rw[bK (by rw[aU];omega),wL]at hy;rcases cc.1 hy with hy|hy
    ·exact hall y hy
    rw[cz.1 hy,<-hx];exact hw
   have adB:x.toNat≠95:=λe=>Hp (bL.1 e);by_cases h46:x=46
   ·have hw:fy true x=true:=by simp[fy,h46]
    have adx:x.toNat=46:=by rw[h46];rfl
    refine wk ?_;refine⟨sB,j+1,sB,⟨aa,λy hy=>?_,H.sx⟩,aa⟩;rw[bK (by rw[aU];omega),wL]at hy;rcases cc.1 hy with hy|hy
    ·exact hall y hy
    rw[cz.1 hy,<-hx];exact hw
   have adx:x.toNat≠46:=λe=>h46 (bL.1 e);have hw:fy true x=false:=by simp[fy,eO,adO,h45,Hp,h46]
   refine wk ?_;exact⟨j,sB,hj,hall,λh=>by rw[<-hx];exact hw,H.sx⟩
 clear H;rintro j w⟨hj,hall,hst,H⟩;have kh:(l.drop p).takeWhile (fy wd)=(l.drop p).take j:=by
  conv=>lhs;rw[<-eW j (l.drop p)]
  refine(qJ hall λy r h=>?_).1;rw[gK]at h;have hlt:p+j<l.length:=by have:=ax bU h;rw[aU,aq]at this;omega
  rw[dk hlt]at h;injection h with h _
  rw[<-h];exact hst hlt
 have htl:((l.drop p).take j).length=j:=by rw[bg,aU];omega
 rw[kh];by_cases h0:j=0
 ·subst h0;rw[kM,ag rfl];refine wk ?_;first|exact H.sx|exact⟨rfl,H.sx⟩
 rw[ae (λh=>h0 (by rw[h]at htl;exact htl.symm)),htl];refine wk ?_;first|exact H.sx|exact⟨rfl,H.sx⟩
theorem Ry(l:ab)(a j:Nat):(l.take (a+j)).drop a=(l.drop a).take j:=by rw[u4,Nat.add_sub_cancel_left]
structure ScR(W V:ad)(o:Option (BL×ab))(q:aj)(w':ad):Prop where
 ex:∃(V':ad) (x y:Sl) (k:Bool),Sub V V'/\Rel W V [] V' w'/\q=.tuple #[x.v,y.v,.bool k]/\(match o with
  | none=>k=false
  | some z=>k=true/\aA cO V' x (z.1.map Prod.snd)/\aA cO V' y (z.1.map Prod.fst++[z.2]))
theorem ajR(hV:Sub V W){s:Sl}{l:ab}(hs:aF V s l)(hl:l.length<=1000000):aB 98 [s.v] W (ScR W V (ky (l.length+1) l)):=by
 have H:=aG hV;have hlen:=hs.len;have og:=hs.cap;obtain⟨full,eK⟩:∃full,full=ky (l.length+1) l:=⟨_,rfl⟩
 rw[<-eK];refine eV Tryz.func98 52 [0,2,3,4,5,6,7,8,9,21,35,42] ?_;refine wk ?_;replace H:=(H.br 9 1).br 9 1;refine aP (S:=Nat×Sl×Sl×BL) al [0] (λk=>[(5,k.2.1.v),(6,k.2.2.1.v),(7,iv (k.1:Int))]) (λk w'=>k.1<=l.length/\k.2.2.2.length<=k.1/\(∃n,(l.drop k.1).length<n/\full=(ky n (l.drop k.1)).map λx=>(k.2.2.2++x.1,x.2))/\Rel W V [.row k.2.1 9 1 ((k.2.2.2.map Prod.snd).flatMap cO),.row k.2.2.1 9 1 ((k.2.2.2.map Prod.fst).flatMap cO)] V w') (λk _=>l.length-k.1) (0,⟨none,0,0⟩,⟨none,0,0⟩,[]) ?_;conv=>whnf
 refine⟨sB,⟨cE _,cE _,⟨l.length+1,ah,?_⟩,H⟩,?_⟩
 ·rw[eK];show ky (l.length+1) l=(ky (l.length+1) l).map λx=>([]++x.1,x.2)
  cases ky (l.length+1) l<;>rfl
 clear H;rintro⟨a,r5,r6,acc⟩w⟨ha,Mm,⟨n,hn,hf⟩,H⟩;dsimp only at ha Mm hn hf H |-;obtain⟨n,rfl⟩:∃m,n=m+1:=⟨n-1,aa⟩
 refine wk ?_;refine aM.cut 2 (λj:Nat=>[(0,s.v),(5,r5.v),(6,r6.v),(7,iv ((a+j:Nat):Int)),(8,iv (a:Int))]) (λj w'=>a+j<=l.length/\(∀y∈(l.drop a).take j,bB y=true)/\(∀h:a+j<l.length,bB l[a+j]=false)/\Rel W V [.row r5 9 1 ((acc.map Prod.snd).flatMap cO),.row r6 9 1 ((acc.map Prod.fst).flatMap cO)] V w') ?_ ?_
 ·refine aP (S:=Nat) al [0,2,3,4,5,6,8,9,35,42] (λj=>[(7,iv ((a+j:Nat):Int))]) (λj w'=>a+j<=l.length/\(∀y∈(l.drop a).take j,bB y=true)/\Rel W V [.row r5 9 1 ((acc.map Prod.snd).flatMap cO),.row r6 9 1 ((acc.map Prod.fst).flatMap cO)] V w') (λj _=>l.length-(a+j)) 0 ?_;conv=>whnf
  refine⟨sB,⟨aa,ah,H⟩,?_⟩;clear H;rintro j w⟨hj,hall,H⟩;by_cases hlt:a+j<l.length;rotate_left
  ·refine wk ?_;exact⟨j,sB,hj,hall,λh=>absurd h hlt,H⟩
  obtain⟨p1,c1⟩:=hs.aR (g:=bv) (λ_=>rfl) hlt;obtain⟨x,hx⟩:∃x,x=l[a+j]:=⟨_,rfl⟩
  rw[<-hx]at c1;refine wk ((afd H.data x).use ?_);rintro v w⟨rfl,K⟩;replace H:=H.cq K;cases hb:bB x with
  | true =>
   refine wk ?_;refine⟨sB,j+1,sB,⟨aa,λy hy=>?_,H⟩,aa⟩;rw[bK (by rw[aU];omega),wL]at hy;rcases cc.1 hy with hy|hy
   ·exact hall y hy
   rw[cz.1 hy,<-hx];exact hb
  | false =>refine wk ?_;exact⟨j,sB,hj,hall,λh=>by rw[<-hx];exact hb,H⟩
 clear H;rintro j w⟨hj,hall,hst,H⟩;have UL:(l.drop a).takeWhile bB=(l.drop a).take j/\(l.drop a).dropWhile bB=l.drop (a+j):=by
  have:=qJ (p:=bB) (a:=(l.drop a).take j) hall (t:=(l.drop a).drop j) λy r h=>by
   rw[gK]at h;have hlt:a+j<l.length:=by have:=ax bU h;rw[aU,aq]at this;omega
   rw[dk hlt]at h;injection h with h _
   rw[<-h];exact hst hlt
  rw[eW,gK]at this;exact this
 have hsub:=aA.sub hs (n:=1) (λ_=>rfl) (a:=a) (b:=a+j) aa hj;rw[Ry]at hsub;rw[ky,UL.1,UL.2]at hf;have hbl:((l.drop a).take j).length=j:=by rw[bg,aU];omega
 refine wk ?_;refine⟨(l.drop a).take j,by rw[hbl];omega,iu _▸(hsub.up H.data).cells,?_⟩;refine H.wn ?_;intro w b30 H;refine wk ?_;refine Rel.eH (f:=cO) (s:=r6) (l:=acc.map Prod.fst) (x:=(l.drop a).take j) rfl (λ_=>rfl) (by simp[Value.oneCell']) H (by rw[aW];show(acc.length+1)*16<=_;omega) (by rw[aW];omega) ?_;intro r7 w H;replace H:Rel W V [.row r5 9 1 ((acc.map Prod.snd).flatMap cO),.row r7 9 1 ((acc.map Prod.fst++[(l.drop a).take j]).flatMap cO)] V w:=H.sx;by_cases hend:a+j=l.length
 ·have hd:l.drop (a+j)=[]:=sb aa;have he:(l.drop a).take j=l.drop a:=bJ (by rw[aU];omega);rw[ag hd]at hf;obtain⟨V2,hV2,H,h5⟩:=Rel.aJ H;obtain⟨V3,aw,H,h7⟩:=Rel.aJ H;rw[hf];refine wk ?_;refine⟨V3,r5,r7,true,hV2.trans aw,H.sx,rfl,rfl,?_,?_⟩
  ·show aA cO V3 r5 ((acc++[]).map Prod.snd);rw[aZ];exact h5.up aw
  show aA cO V3 r7 ((acc++[]).map Prod.fst++[l.drop a]);rw[aZ,<-he];exact h7
 have hp:a+j<l.length:=aa;have hd:l.drop (a+j)≠[]:=λh=>by have:=ax bU h;rw[aU,aK]at this;omega
 rw[ae hd]at hf;refine wk ((ak6 H.data hs hl hp).use ?_);rintro v w⟨rfl,K⟩;replace H:=H.cq K;cases ht:zA (l.drop (a+j))with
 | none =>
  have e:s5 l (a+j) = -1:=by rw[s5,ht]
  rw[ht]at hf;rw[e,hf];refine wk ?_;exact⟨V,⟨none,0,0⟩,⟨none,0,0⟩,false,aS _,H.sx,rfl,rfl⟩
 | some y =>
  obtain⟨t,r⟩:=y;obtain⟨h1,h2⟩:=PS ht;have e:s5 l (a+j)=((a+j+t.length:Nat):Int):=by rw[s5,ht]
  rw[ht]at hf;have h3:=ax bU h1;rw[aU,ak]at h3;have h4:=iC.2 h2;have hr:l.drop (a+j+t.length)=r:=by rw[<-gK,h1,List.drop_left]
  have hcut:(l.take (a+j+t.length)).drop (a+j)=t:=by rw[Ry,h1,List.take_left]
  have hsub2:=aA.sub hs (n:=1) (λ_=>rfl) (a:=a+j) (b:=a+j+t.length) aa aa;rw[hcut]at hsub2;rw[e];refine wk ?_;refine⟨t,aa,iu _▸(hsub2.up H.data).cells,?_⟩;refine H.wn ?_;intro w Q1 H;refine wk ?_;refine Rel.bF (f:=cO) (s:=r5) (l:=acc.map Prod.snd) (x:=t) rfl (λ_=>rfl) (by simp[Value.oneCell']) H (by rw[aW];show(acc.length+1)*16<=_;omega) (by rw[aW];omega) ?_;intro r8 w H;refine wk ?_;refine⟨sB,(a+j+t.length,r8,r7,acc++[((l.drop a).take j,t)]),sB,⟨by dsimp only;omega,by dsimp only;rw[ak,bT];omega,⟨n,?_,?_⟩,?_⟩,by dsimp only;omega⟩
  ·dsimp only;rw[aU]at hn |-;omega
  ·dsimp only;rw[hr,hf];simp only[tC];congr 1;funext x;simp
  dsimp only;rw[dU,dU];exact H.sx
structure VaR(W V:ad)(ts:List Tok)(o:Option (ao×List Tok))(q:aj)(w':ad):Prop where
 ex:∃(V':ad) (h:VH) (next:Int) (k:Bool),Sub V V'/\Rel W V [] V' w'/\q=.tuple #[gw h,iv next,.bool k]/\(match o with
  | none=>k=false
  | some x=>k=true/\cb V' h x.1/\∃m:Nat,next=m/\m<=ts.length/\ts.drop m=x.2)
theorem al0(f:j3)(ns:bf)(t:Tok)(r:List Tok):qN f 4 ns (t::r)=match r with
  | c::r'=>if cX t=true/\c=[58]then(match f r' with
   | none=>none
   | some (v,q)=>some (ns++[t],v,q))else none
  | []=>none:=by
 unfold qN;rw[ag rfl];cases r<;>rfl
theorem al2(f:j3)(ns:bf)(ts:List Tok):qN f 3 ns ts=match f ts with
  | none=>none
  | some (v,q)=>some (ns,v,q):=by
 unfold qN;rw[ae ai];try(cases f ts<;>rfl)
theorem Zw(n:Nat)(r:List Tok):gF n ([93]::r)=none:=by
 cases n with
 | zero=>rfl
 | succ n =>have h:jN [93]=none:=Oa (i:=0) ai ai ai;rw[gF,ae ai,ae ai,ae ai,h]
def F1(f:j3)(k:Int)(m:Nat)(ns:bf)(ps:List ao)(o:Option (ao×List Tok)):Option VL:=match o with
 | none=>none
 | some (v,q)=>match q with
  | []=>none
  | u::q'=>if u=gG k then some (ns,ps++[v],q')else if u=[44]then oQ f k m (ns,ps++[v],q')else none
theorem Zt{f:j3}(hf:f []=none)(m:Nat){ns:bf}{ps:List ao}{t:Tok}{r:List Tok}(h:¬(t=[93]/\ps=[])):oQ f 3 (m+1) (ns,ps,t::r)=F1 f 3 m ns ps (f (t::r)):=by rw[Zs hf 3 m h,al2];unfold F1;cases f (t::r)<;>rfl
theorem Zr{f:j3}(hf:f []=none)(m:Nat){ns:bf}{ps:List ao}{t:Tok}{r:List Tok}(h:¬(t=[125]/\ps=[])):oQ f 4 (m+1) (ns,ps,t::r)=match r with
  | c::r'=>if cX t=true/\c=[58]then F1 f 4 m (ns++[t]) ps (f r')else none
  | []=>none:=by
 rw[Zs hf 4 m h,al0];cases r with
 | nil=>rfl
 | cons c r' =>
  simp only;by_cases h2:cX t=true/\c=[58]
  ·rw[ag h2,ag h2];unfold F1;cases f r'<;>rfl
  rw[ae h2,ae h2]
abbrev sS(vb a9 b6:Nat)(k:Int)(ns ps:Sl)(nms:bf)(vh:List VH)(c9 c6:aC):cx:=[.ay vb [iv k,iv 0,.slice none 0 0,ns.v,ps.v] 27,.row ns 9 1 (nms.flatMap cO),.row ps 27 5 (vh.flatMap a8),.ay a9 c9 27,.ay b6 c6 27]
theorem amb:∀(n:Nat) {V W:ad},Sub V W->∀ {s:Sl} {ts:List Tok} {p:Nat} {lv:Int},aA cO V s ts->(∀t∈ts,t≠[]/\t.length<=1000000)->ts.length<=1000000->n<=10->p<=ts.length->lv=11-(n:Int) ->
  aB 99 [s.v,iv (p:Int),iv lv] W (VaR W V ts (gF n (ts.drop p))):=by
 intro n;induction n with
 | zero =>
  intro V W hV s ts p lv hs hne hl hn hp hlv;have H:=aG hV;have hlen:=hs.len;refine eV Tryz.func99 178 [0,1,2,6,7,8,9,10,11,12,13,14,15,16,17,18,19,28,36,52,65,86,89,110,154,168] ?_;refine H.wn ?_;intro w b6 H;refine H.wn ?_;intro w b9 H;by_cases hlt:p<ts.length
  all_goals
   refine H.wg ?_;intro _ w H;exact⟨V,aV,_,_,aS _,H.sx,rfl,rfl⟩
 | succ n ih =>
  intro V W hV s ts p lv hs hne hl hn hp hlv;have H:=aG hV;have hlen:=hs.len;have hd0:∀q,q<=ts.length->¬q<ts.length->ts.drop q=[]:=λq _ h=>sb aa;refine eV Tryz.func99 178 [0,1,2,6,7,8,9,10,11,12,13,14,15,16,17,18,19,28,36,52,65,86,89,110,154,168] ?_;refine H.wn ?_;intro w b6 H;refine H.wn ?_;intro w b9 H;by_cases hlt:p<ts.length;rotate_left
  ·rw[hd0 p hp hlt,F2];refine H.wg ?_;intro _ w H;exact⟨V,aV,_,_,aS _,H.sx,rfl,rfl⟩
  obtain⟨p0,c0⟩:=hs.aR (g:=str) (λ_=>rfl) hlt;obtain⟨ht0,htl⟩:=hne ts[p] (bS hlt);have eT:=dk hlt;obtain⟨t,ht⟩:∃t,t=ts[p]:=⟨_,rfl⟩
  rw[<-ht]at c0 ht0 htl eT;obtain⟨c,np,hch⟩:∃c,t[(0:Int).toNat]?=some c/\t.head?=some c:=by
   cases t with
   | nil=>exact absurd rfl ht0
   | cons c r=>exact⟨c,rfl,rfl⟩
  have ux:=c.toNat_lt;rw[eT,gF,hch];by_cases dy:c=34
  ·have L6:c.toNat=34:=by rw[dy];rfl
   rw[ag (by rw[dy])];refine H.wg ?_;intro w H;refine(alS (s:=t) H.data htl).use ?_;rintro q w⟨V2,r2,b2,k2,hV2,K,rfl,hb2,hbl,hres⟩;replace H:=Rel.call H K;simp only[aL]at H;refine H.wg ?_;intro w H;refine⟨V2,ft r2,_,k2,hV2,H.sx,rfl,?_⟩;rw[hres];cases k2 with
   | false=>rfl
   | true=>exact⟨rfl,tS hb2,p+1,rfl,hlt,rfl⟩
  have n34:c.toNat≠34:=λe=>dy (bL.1 e);rw[ae (λe=>dy (by simpa using e))];by_cases uq:t=[91]
  ·rw[ag uq];obtain⟨full,eK⟩:∃full,full=sN (gF n) 3 (ts.drop (p+1)):=⟨_,rfl⟩
   rw[<-eK];rw[Zq]at eK;subst uq;obtain rfl:c=91:=(Option.some.inj hch).symm;refine H.wh ?_;intro w H;refine H.nA ?_;intro w pV H;refine H.wg ?_;intro w H;replace H:=(H.br 27 5).br 9 1;have H0:Rel W V (sS pV b9 b6 3 ⟨none,0,0⟩ ⟨none,0,0⟩ [] [] (a8 aV) (a8 aV)) V w:=H.pick;clear H;refine aM.cut 0 (λz:Nat×Sl×Sl×List Tok×List VH×List ao=>[(0,s.v),(1,iv (z.1:Int)),(6,.pointer (some ⟨b6,0,none⟩)),(15,.pointer (some ⟨pV,0,none⟩))]) (λz w'=>z.1<=ts.length/\(z.1<ts.length->full=some (z.2.2.2.1,z.2.2.2.2.2,ts.drop (z.1+1)))/\(¬z.1<ts.length->full=none)/\∃V',Sub V V'/\Pw cb V' z.2.2.2.2.1 z.2.2.2.2.2/\Rel W V (sS pV b9 b6 3 z.2.1 z.2.2.1 z.2.2.2.1 z.2.2.2.2.1 (a8 aV) (a8 aV)) V' w') ?_ ?_
   ·refine aP (S:=Nat×Sl×Sl×List Tok×List VH×List ao) al [0,2,6,9,10,11,12,13,14,15,16,28,36,52,65] (λz=>[(1,iv (z.1:Int))]) (λz w'=>z.1<=ts.length/\(z.2.2.2.1.length<=z.1/\z.2.2.2.2.2.length<=z.1)/\(∃m,(ts.drop z.1).length<m/\full=oQ (gF n) 3 m (z.2.2.2.1,z.2.2.2.2.2,ts.drop z.1))/\∃V',Sub V V'/\Pw cb V' z.2.2.2.2.1 z.2.2.2.2.2/\Rel W V (sS pV b9 b6 3 z.2.1 z.2.2.1 z.2.2.2.1 z.2.2.2.2.1 (a8 aV) (a8 aV)) V' w') (λz _=>ts.length-z.1) (p+1,⟨none,0,0⟩,⟨none,0,0⟩,[],[],[]) ?_;conv=>whnf
    refine⟨sB,⟨hlt,⟨cE _,cE _⟩,⟨_,sj _,eK⟩,V,aS _,Pw.nil,H0⟩,?_⟩;clear H0 eK;rintro⟨q,ns,ps,nms,vh,vs⟩w⟨hq,⟨hnl,vZ⟩,⟨m,hm,hE⟩,V2,hV2,hP,H⟩;dsimp only at hq hnl vZ hm hE hP H |-;have hvh:=hP.len;simp only[sS]at H;have UA:=H.dW (i:=2) rfl (λ_=>rfl) ai;by_cases cD:q<ts.length;rotate_left
    ·have hno:full=none:=by rw[hE,hd0 q hq cD];rfl
     refine wk ?_;exact⟨(q,ns,ps,nms,vh,vs),sB,hq,λh=>absurd h cD,λ_=>hno,V2,hV2,hP,H⟩
    obtain⟨p2,c2⟩:=(hs.up hV2).aR (g:=str) (λ_=>rfl) cD;have qd:=dk cD;obtain⟨u,hu⟩:∃u,u=ts[q]:=⟨_,rfl⟩
    rw[<-hu]at c2 qd;rw[aU]at hm;obtain⟨m,rfl⟩:∃m',m=m'+1:=⟨m-1,aa⟩
    rw[qd]at hE;by_cases hue:u=[93]
    ·by_cases hvs:vs=[]
     ·have Ns:vs.length=0:=by rw[hvs];rfl
      have hyes:full=some (nms,vs,ts.drop (q+1)):=by rw[hE,hvs,hue];rfl
      subst hue;refine wk ?_;exact⟨(q,ns,ps,nms,vh,vs),sB,hq,λ_=>hyes,λh=>absurd cD h,V2,hV2,hP,H⟩
     have Ns:vs.length≠0:=λh=>hvs (dt h);have hno:full=none:=by rw[hE,Zt (F2 n) _ (λh=>hvs h.2),hue,Zw];rfl
     rw[hue]at c2;refine wk ?_;refine(ih H.data (p:=q) (lv:=lv+1) (hs.up hV2) hne hl aa aa aa).use ?_;rintro q1 w⟨V3,h3,nx,k3,aw,K,rfl,hres⟩;replace H:=Rel.call H K;simp only[aL]at H;have bu:=hV2.trans aw;refine H.wn ?_;intro w QW H;rw[qd,hue,Zw]at hres;dsimp only at hres;subst hres;rw[hno];refine H.wg ?_;intro _ w H;exact⟨_,aV,_,_,bu,H.sx,rfl,rfl⟩
    rw[Zt (F2 n) _ (λh=>hue h.1),<-qd]at hE;refine wk ?_;refine pW (by simp[hue]) ?_;refine wk ?_;refine(ih H.data (p:=(q)) (lv:=lv+1) (hs.up hV2) hne hl aa aa aa).use ?_;rintro q1 w⟨V3,h3,nx,k3,aw,K,rfl,hres⟩;replace H:=Rel.call H K;simp only[aL]at H;have bu:=hV2.trans aw;refine H.wn ?_;intro w QW H;cases hf:gF n (ts.drop (q))with
    | none =>rw[hf]at hres hE;dsimp only at hres;subst hres;rw[hE];refine H.wg ?_;intro _ w H;exact⟨_,aV,_,_,bu,H.sx,rfl,rfl⟩
    | some y =>
     obtain⟨v1,r1⟩:=y;rw[hf]at hres hE;obtain⟨rfl,jH,m1,rfl,l7,pg⟩:=hres;dsimp only at jH pg hE;have hok:=ax bU (F3 n _ _ _ hf).1;rw[ak,aU,<-pg,aU]at hok;have htn:=iC.2 (FU v1);by_cases jS:m1<ts.length;rotate_left
     ·rw[<-pg,hd0 m1 l7 jS]at hE;rw[hE];refine H.wg ?_;intro _ w H;exact⟨_,aV,_,_,bu,H.sx,rfl,rfl⟩
     obtain⟨p3,c3⟩:=(hs.up bu).aR (g:=str) (λ_=>rfl) jS;have DO:=dk jS;obtain⟨u1,jn⟩:∃u1,u1=ts[m1]:=⟨_,rfl⟩
     rw[<-jn]at c3 DO;rw[<-pg,DO]at hE;replace hE:full=if u1=[93]then some (nms,vs++[v1],ts.drop (m1+1))else if u1=[44]then oQ (gF n) 3 m (nms,vs++[v1],ts.drop (m1+1))else none:=hE
     have hP3:=(hP.up mq aw).snoc jH;by_cases he:u1=[93]
     ·subst he;rw[ag rfl]at hE;refine H.wh ?_;intro w H;refine H.nA ?_;intro w KI H;refine wk ?_;refine Rel.xk (f:=a8) (s:=ps) (l:=vh) (x:=h3) rfl (λ_=>rfl) (by simp[Value.oneCell']) H (by show(vh.length+1)*88<=_;omega) aa ?_;intro yY w H;refine H.wg ?_;intro w H;exact⟨(m1,ns,yY,nms,vh++[h3],vs++[v1]),sB,l7,λ_=>hE,λh=>absurd jS h,V3,bu,hP3,H.sx⟩
     rw[ae he]at hE;by_cases ob:u1=[44]
     ·subst ob;rw[ag rfl]at hE;refine H.wh ?_;intro w H;refine H.nA ?_;intro w KI H;refine wk ?_;refine Rel.xk (f:=a8) (s:=ps) (l:=vh) (x:=h3) rfl (λ_=>rfl) (by simp[Value.oneCell']) H (by show(vh.length+1)*88<=_;omega) aa ?_;intro yY w H;refine H.wg ?_;intro w H;exact⟨sB,(m1+1,ns,yY,nms,vh++[h3],vs++[v1]),sB,⟨jS,⟨by dsimp only;first|omega|(rw[ak,bT];omega),by dsimp only;rw[ak,bT];omega⟩,⟨m,by dsimp only;rw[aU];omega,hE⟩,V3,bu,hP3,H.sx⟩,by dsimp only;omega⟩
     rw[ae ob]at hE;rw[hE];refine H.wg ?_;intro w H;refine pW (by simp[ob]) ?_;refine wk ?_;refine pW (by simp[he]) ?_;refine H.wg ?_;intro w H;exact⟨_,aV,_,_,bu,H.sx,rfl,rfl⟩
   clear H0;rintro⟨q,ns,ps,nms,vh,vs⟩w⟨hq,hyes,hno,V2,hV2,hP,H⟩;dsimp only at hq hyes hno hP H |-;simp only[sS]at H;refine H.wg ?_;intro w H;have hx:full=none\/full=some (nms,vs,ts.drop (q+1))/\q<ts.length:=by
    by_cases cD:q<ts.length
    ·exact .inr ⟨hyes cD,cD⟩
    exact .inl (hno cD)
   have H2:Rel W V [.row ns 9 1 (nms.flatMap cO),.row ps 27 5 (vh.flatMap a8)] V2 w:=H.sx;obtain⟨V3,aw,H3,hns⟩:=H2.aJ (λ_=>rfl) ai;obtain⟨V4,ar,H4,hps⟩:=H3.aJ (λ_=>rfl) ai;refine⟨V4,⟨3,0,⟨none,0,0⟩,ns,ps⟩,_,_,(hV2.trans aw).trans ar,H4,rfl,?_⟩;by_cases cD:q<ts.length
   ·rw[hyes cD];have Dw:=(hP.up mq aw).up mq ar;exact⟨bw aa,.mk vh rfl rfl (aA.nil _ _) (hns.up ar) hps Dw.len Dw.all,q+1,rfl,aa,rfl⟩
   rw[hno cD];exact bA aa
  rw[ae uq];by_cases uo:t=[123]
  ·rw[ag uo];obtain⟨full,eK⟩:∃full,full=sN (gF n) 4 (ts.drop (p+1)):=⟨_,rfl⟩
   rw[<-eK];rw[Zq]at eK;subst uo;obtain rfl:c=123:=(Option.some.inj hch).symm;refine H.wh ?_;intro w H;refine H.nA ?_;intro w pV H;refine H.wg ?_;intro _ w H;replace H:=(H.br 27 5).br 9 1;have H0:Rel W V (sS pV b9 b6 4 ⟨none,0,0⟩ ⟨none,0,0⟩ [] [] (a8 aV) (a8 aV)) V w:=H.pick;clear H;refine aM.cut 0 (λz:Nat×Sl×Sl×List Tok×List VH×List ao=>[(0,s.v),(1,iv (z.1:Int)),(6,.pointer (some ⟨b6,0,none⟩)),(15,.pointer (some ⟨pV,0,none⟩))]) (λz w'=>z.1<=ts.length/\(z.1<ts.length->full=some (z.2.2.2.1,z.2.2.2.2.2,ts.drop (z.1+1)))/\(¬z.1<ts.length->full=none)/\∃V',Sub V V'/\Pw cb V' z.2.2.2.2.1 z.2.2.2.2.2/\Rel W V (sS pV b9 b6 4 z.2.1 z.2.2.1 z.2.2.2.1 z.2.2.2.2.1 (a8 aV) (a8 aV)) V' w') ?_ ?_
   ·refine aP (S:=Nat×Sl×Sl×List Tok×List VH×List ao) al [0,2,6,9,10,11,12,13,14,15,16,28,36,52,65] (λz=>[(1,iv (z.1:Int))]) (λz w'=>z.1<=ts.length/\(z.2.2.2.1.length<=z.1/\z.2.2.2.2.2.length<=z.1)/\(∃m,(ts.drop z.1).length<m/\full=oQ (gF n) 4 m (z.2.2.2.1,z.2.2.2.2.2,ts.drop z.1))/\∃V',Sub V V'/\Pw cb V' z.2.2.2.2.1 z.2.2.2.2.2/\Rel W V (sS pV b9 b6 4 z.2.1 z.2.2.1 z.2.2.2.1 z.2.2.2.2.1 (a8 aV) (a8 aV)) V' w') (λz _=>ts.length-z.1) (p+1,⟨none,0,0⟩,⟨none,0,0⟩,[],[],[]) ?_;conv=>whnf
    refine⟨sB,⟨hlt,⟨cE _,cE _⟩,⟨_,sj _,eK⟩,V,aS _,Pw.nil,H0⟩,?_⟩;clear H0 eK;rintro⟨q,ns,ps,nms,vh,vs⟩w⟨hq,⟨hnl,vZ⟩,⟨m,hm,hE⟩,V2,hV2,hP,H⟩;dsimp only at hq hnl vZ hm hE hP H |-;have hvh:=hP.len;simp only[sS]at H;have UA:=H.dW (i:=2) rfl (λ_=>rfl) ai;by_cases cD:q<ts.length;rotate_left
    ·have hno:full=none:=by rw[hE,hd0 q hq cD];rfl
     refine wk ?_;exact⟨(q,ns,ps,nms,vh,vs),sB,hq,λh=>absurd h cD,λ_=>hno,V2,hV2,hP,H⟩
    obtain⟨p2,c2⟩:=(hs.up hV2).aR (g:=str) (λ_=>rfl) cD;have qd:=dk cD;obtain⟨u,hu⟩:∃u,u=ts[q]:=⟨_,rfl⟩
    rw[<-hu]at c2 qd;rw[aU]at hm;obtain⟨m,rfl⟩:∃m',m=m'+1:=⟨m-1,aa⟩
    rw[qd]at hE;by_cases hue:u=[125]
    ·by_cases hvs:vs=[]
     ·have Ns:vs.length=0:=by rw[hvs];rfl
      have hyes:full=some (nms,vs,ts.drop (q+1)):=by rw[hE,hvs,hue];rfl
      subst hue;refine wk ?_;exact⟨(q,ns,ps,nms,vh,vs),sB,hq,λ_=>hyes,λh=>absurd cD h,V2,hV2,hP,H⟩
     have Ns:vs.length≠0:=λh=>hvs (dt h);have hno:full=none:=by
      rw[hE,Zr (F2 n) _ (λh=>hvs h.2),hue];cases ts.drop (q+1)with
      | nil=>rfl
      | cons c r=>exact ae (λh=>absurd h.1 ai)
     rw[hue]at c2;by_cases h2:q+1<ts.length
     ·refine wk ((NW _ [125]).use ?_);rintro v w'⟨rfl,rfl⟩;rw[show cX [125]=false by decide];rw[hno];refine H.wg ?_;intro w H;exact⟨_,aV,_,_,hV2,H.sx,rfl,rfl⟩
     rw[hno];refine H.wg ?_;intro w H;exact⟨_,aV,_,_,hV2,H.sx,rfl,rfl⟩
    rw[Zr (F2 n) _ (λh=>hue h.1)]at hE;refine wk ?_;refine pW (by simp[hue]) ?_;by_cases h2:q+1<ts.length;rotate_left
    ·rw[hd0 (q+1) aa h2]at hE;rw[hE];refine H.wg ?_;intro w H;exact⟨_,aV,_,_,hV2,H.sx,rfl,rfl⟩
    obtain⟨p4,c4⟩:=(hs.up hV2).aR (g:=str) (λ_=>rfl) h2;have TZ:=dk h2;obtain⟨u2,hu2⟩:∃u2,u2=ts[q+1]:=⟨_,rfl⟩
    rw[<-hu2]at c4 TZ;rw[show q+1=(((q:Nat):Int)+1).toNat by omega]at c4;rw[TZ]at hE;replace hE:full=if cX u=true/\u2=[58]then F1 (gF n) 4 m (nms++[u]) vs (gF n (ts.drop (q+2)))else none:=hE
    refine wk ((NW _ u).use ?_);rintro v w'⟨rfl,rfl⟩;by_cases hnm:cX u=true;rotate_left
    ·rw[ae (λh=>hnm h.1)]at hE;rw[show cX u=false by simpa using hnm];rw[hE];refine H.wg ?_;intro w H;exact⟨_,aV,_,_,hV2,H.sx,rfl,rfl⟩
    rw[hnm];by_cases vG:u2=[58]
    rotate_left
    ·rw[ae (λh=>vG h.2)]at hE;rw[hE];refine wk ?_;refine pW (by simp[vG]) ?_;refine H.wg ?_;intro w H;exact⟨_,aV,_,_,hV2,H.sx,rfl,rfl⟩
    rw[ag ⟨hnm,vG⟩]at hE;rw[vG]at c4;refine wk ?_;refine dV 21 [6] [0,1,2,3,4,5,6,7,8,9] H ?_;intro w H;refine H.wn ?_;intro w amA H;refine wk ?_;refine Rel.eH (f:=cO) (s:=ns) (l:=nms) (x:=u) rfl (λ_=>rfl) (by simp[Value.oneCell']) H (by show(nms.length+1)*16<=_;omega) aa ?_;intro ns w H;refine H.wg ?_;intro w H;refine(ih H.data (p:=(q+2)) (lv:=lv+1) (hs.up hV2) hne hl aa aa aa).use ?_;rintro q1 w⟨V3,h3,nx,k3,aw,K,rfl,hres⟩;replace H:=Rel.call H K;simp only[aL]at H;have bu:=hV2.trans aw;refine H.wn ?_;intro w QW H;cases hf:gF n (ts.drop (q+2))with
    | none =>rw[hf]at hres hE;dsimp only at hres;subst hres;rw[hE];refine H.wg ?_;intro _ w H;exact⟨_,aV,_,_,bu,H.sx,rfl,rfl⟩
    | some y =>
     obtain⟨v1,r1⟩:=y;rw[hf]at hres hE;obtain⟨rfl,jH,m1,rfl,l7,pg⟩:=hres;dsimp only at jH pg hE;have hok:=ax bU (F3 n _ _ _ hf).1;rw[ak,aU,<-pg,aU]at hok;have htn:=iC.2 (FU v1);by_cases jS:m1<ts.length;rotate_left
     ·rw[<-pg,hd0 m1 l7 jS]at hE;rw[hE];refine H.wg ?_;intro _ w H;exact⟨_,aV,_,_,bu,H.sx,rfl,rfl⟩
     obtain⟨p3,c3⟩:=(hs.up bu).aR (g:=str) (λ_=>rfl) jS;have DO:=dk jS;obtain⟨u1,jn⟩:∃u1,u1=ts[m1]:=⟨_,rfl⟩
     rw[<-jn]at c3 DO;rw[<-pg,DO]at hE;replace hE:full=if u1=[125]then some ((nms++[u]),vs++[v1],ts.drop (m1+1))else if u1=[44]then oQ (gF n) 4 m ((nms++[u]),vs++[v1],ts.drop (m1+1))else none:=hE
     have hP3:=(hP.up mq aw).snoc jH;by_cases he:u1=[125]
     ·subst he;rw[ag rfl]at hE;refine H.wh ?_;intro w H;refine H.nA ?_;intro w KI H;refine wk ?_;refine Rel.xk (f:=a8) (s:=ps) (l:=vh) (x:=h3) rfl (λ_=>rfl) (by simp[Value.oneCell']) H (by show(vh.length+1)*88<=_;omega) aa ?_;intro yY w H;refine H.wg ?_;intro w H;exact⟨(m1,ns,yY,(nms++[u]),vh++[h3],vs++[v1]),sB,l7,λ_=>hE,λh=>absurd jS h,V3,bu,hP3,H.sx⟩
     rw[ae he]at hE;by_cases ob:u1=[44]
     ·subst ob;rw[ag rfl]at hE;refine H.wh ?_;intro w H;refine H.nA ?_;intro w KI H;refine wk ?_;refine Rel.xk (f:=a8) (s:=ps) (l:=vh) (x:=h3) rfl (λ_=>rfl) (by simp[Value.oneCell']) H (by show(vh.length+1)*88<=_;omega) aa ?_;intro yY w H;refine H.wg ?_;intro w H;exact⟨sB,(m1+1,ns,yY,(nms++[u]),vh++[h3],vs++[v1]),sB,⟨jS,⟨by dsimp only;first|omega|(rw[ak,bT];omega),by dsimp only;rw[ak,bT];omega⟩,⟨m,by dsimp only;rw[aU];omega,hE⟩,V3,bu,hP3,H.sx⟩,by dsimp only;omega⟩
     rw[ae ob]at hE;rw[hE];refine H.wg ?_;intro w H;refine pW (by simp[ob]) ?_;refine wk ?_;refine pW (by simp[he]) ?_;refine H.wg ?_;intro w H;exact⟨_,aV,_,_,bu,H.sx,rfl,rfl⟩
   clear H0;rintro⟨q,ns,ps,nms,vh,vs⟩w⟨hq,hyes,hno,V2,hV2,hP,H⟩;dsimp only at hq hyes hno hP H |-;simp only[sS]at H;refine H.wg ?_;intro w H;have hx:full=none\/full=some (nms,vs,ts.drop (q+1))/\q<ts.length:=by
    by_cases cD:q<ts.length
    ·exact .inr ⟨hyes cD,cD⟩
    exact .inl (hno cD)
   have H2:Rel W V [.row ns 9 1 (nms.flatMap cO),.row ps 27 5 (vh.flatMap a8)] V2 w:=H.sx;obtain⟨V3,aw,H3,hns⟩:=H2.aJ (λ_=>rfl) ai;obtain⟨V4,ar,H4,hps⟩:=H3.aJ (λ_=>rfl) ai;refine⟨V4,⟨4,0,⟨none,0,0⟩,ns,ps⟩,_,_,(hV2.trans aw).trans ar,H4,rfl,?_⟩;by_cases cD:q<ts.length
   ·rw[hyes cD];have Dw:=(hP.up mq aw).up mq ar;exact⟨bw aa,.mk vh rfl rfl (aA.nil _ _) (hns.up ar) hps Dw.len Dw.all,q+1,rfl,aa,rfl⟩
   rw[hno cD];exact bA aa
  rw[ae uo];refine H.wg ?_;intro w H;refine pW (by simp[uq]) ?_;refine wk ?_;refine pW (by simp[uo]) ?_;refine wk ((agS (s:=t) H.data htl).use ?_);rintro q w⟨z,k2,rfl,hz,hres,K⟩;replace H:=Rel.call H K;simp only[aL]at H;refine H.wg ?_;intro w H;refine⟨V,jo z,_,k2,aS _,H.sx,rfl,?_⟩;rw[hres];cases k2 with
  | false=>rfl
  | true=>exact⟨rfl,zK _ _,p+1,rfl,hlt,rfl⟩
theorem X0:∀ {n:Nat} {l:ab} {L:BL} {lb:ab},ky n l=some (L,lb)->∀p∈L,p.2≠[]
 | 0,l,L,lb,h=>by simp[ky]at h
 | n+1,l,L,lb,h=>by
  rw[ky]at h;split at h
  ·cases h;simp
  split at h
  ·cases h
  rename_i t r ht;obtain⟨x,hx,h⟩:=iB.1 h;obtain⟨M,mb⟩:=x;cases h;intro p hp;rcases bP.1 hp with rfl|hp
  ·exact(PS ht).2
  exact X0 hx p hp
theorem agh(h:t∈ts):t.length<=jJ ts:=by obtain⟨a,b,rfl⟩:=E0 h;simp only[jJ,dU,fO,List.sum_append,List.sum_cons];omega
theorem agf{p:ab×Tok}(h:p∈L):p.1.length<=(cC L).length:=by obtain⟨a,b,rfl⟩:=E0 h;rw[LG,qa];simp only[ak];omega
theorem alm(hV:Sub V W){s:Sl}{l:ab}(hs:aF V s l)(hl:l.length<=1000):aB 29 [s.v] W (Ae W V (iG l)):=by
 have H:=aG hV;have hlen:=hs.len;have e:=ald (l:=l) aa;refine eV Tryz.func29 89 [0,2,3,4,5,6,7,8,9,11,12,13,14,22,43,56,67,82] ?_;refine H.wn ?_;intro w b2 H;refine wk ?_;refine(ajR H.data hs aa).use ?_;rintro q w⟨V2,x,y,k,hV2,K,rfl,hres⟩;replace H:=Rel.call H K;simp only[aL]at H;cases l9:ky (l.length+1) l with
 | none =>rw[l9]at hres e;dsimp only at hres e;subst hres;rw[e];refine H.wg ?_;intro w H;exact⟨_,aV,⟨none,0,0⟩,zeroV,[],hV2,H.sx,cG _,aA.nil _ _,rfl⟩
 | some z =>
 obtain⟨L,lb⟩:=z;rw[l9]at hres e;obtain⟨rfl,hx,hy⟩:=hres;dsimp only at hx hy e;obtain⟨g1,g2,g3⟩:=Po l9;have hne:=X0 l9;have Dr:=(Lh L 0 false hne).2.2;have yf:=ax bU g1;rw[ak]at yf;have hfl:=LH L;have jS:(L.map Prod.snd).length=L.length:=ah;refine wk ?_;refine(amb 10 (p:=0) (lv:=1) H.data hx (λt ht=>⟨by obtain⟨p,hp,rfl⟩:=cJ.1 ht;exact hne p hp,by have:=agh ht;omega⟩) aa (aQ _) (cE _) rfl).use ?_
 rintro q w⟨V3,h3,nx,k3,aw,K,rfl,hres⟩;replace H:=Rel.call H K;simp only[aL]at H;have bu:=hV2.trans aw;have hxl:=hx.len;refine H.wn ?_;intro w b8 H;rw[List.drop_zero]at hres;cases jH:gF 10 (L.map Prod.snd)with
 | none =>rw[jH]at hres e;dsimp only at hres e;subst hres;rw[e];refine H.wg ?_;intro _ w H;exact⟨_,aV,⟨none,0,0⟩,zeroV,[],bu,H.sx,cG _,aA.nil _ _,rfl⟩
 | some yv =>
 obtain⟨v,r⟩:=yv;rw[jH]at hres e;obtain⟨rfl,uJ,m,rfl,hm,pg⟩:=hres;dsimp only at uJ pg e;obtain⟨t1,t2⟩:=F3 10 _ _ _ jH;by_cases hr:r=[]
 rotate_left
 ·have l7:m<(L.map Prod.snd).length:=by
   rcases Nat.lt_or_ge m (L.map Prod.snd).length with h|h
   ·exact h
   exact absurd (by rw[<-pg];exact sb h) hr
  rw[ae (λh=>hr h.1)]at e;rw[e];refine H.wg ?_;intro _ w H;exact⟨_,aV,⟨none,0,0⟩,zeroV,[],bu,H.sx,cG _,aA.nil _ _,rfl⟩
 have l7:m=(L.map Prod.snd).length:=by have:=ax bU pg;rw[hr,aU,aK]at this;omega
 subst hr;rw[aZ]at t1;have q8:VB 1048576 v:=Zz t2 ai (by rw[<-t1];omega);refine H.wg ?_;intro w H;refine(w9 H.data uJ q8).use ?_;rintro q w⟨rfl,K⟩;replace H:=Rel.call H K;simp only[aL]at H;by_cases hvf:(ct v).1=0;rotate_left
 ·rw[ae (λh=>hvf h.2)]at e;rw[e];refine H.wg ?_;intro w H;exact⟨_,aV,⟨none,0,0⟩,zeroV,[],bu,H.sx,cG _,aA.nil _ _,rfl⟩
 rw[ag ⟨rfl,hvf⟩]at e;rw[e];refine wk ?_;refine(ak7 (SizeOf.sizeOf v+1) H.data (h:=h3) (v:=v) false (sj _) uJ q8 t2 (by rw[<-t1];omega)).use ?_;rintro q w⟨V6,x6,y6,bC,K,rfl⟩;replace H:=H.cq K;obtain⟨U,hU⟩:∃U,U=gx false (L.map Prod.snd)++[[10]]:=⟨_,rfl⟩
 obtain⟨B,hB⟩:∃B,B=L.map Prod.fst++[lb]:=⟨_,rfl⟩
 have jl:U.length=L.length+1:=by rw[hU,ak,sO,jS];rfl
 have L9:B.length=L.length+1:=by rw[hB];simp
 have hBb:∀b∈B,b.length<=1000:=by
  intro b hb;rw[hB]at hb;rcases cc.1 hb with hb|hb
  ·obtain⟨p,hp,rfl⟩:=cJ.1 hb;have:=agf hp;omega
  rw[cz.1 hb];omega
 have hot:lg L lb=pX B U:=by rw[aha,hB,hU]
 rw[hot];rw[<-hB]at hy;have hyl:=hy.len;refine H.wn ?_;intro w b51 H;refine wk ?_;refine Rel.oV (i:=1) (s:=y6) (xs:=gx false (dp v)) [[10]] H rfl rfl (by rw[sO,<-t1];simp only[aq,aK];omega) ?_;intro y7 w H;simp only[bH,fa]at H;rw[<-t1,<-hU]at H;have H2:Rel W V [.row y7 9 1 (U.flatMap cO),.ay b8 (a8 h3) 27,.ay b2 (a8 aV) 27] V6 w:=H.sx;obtain⟨V7,fH,H3,UO⟩:=H2.aJ (λ_=>rfl) ai;clear H H2;have anf:=UO.len;have Mi:=bC.trans fH;have o9:=bu.trans Mi;replace hy:=hy.up (aw.trans Mi);refine wk ?_;refine aP (S:=Nat×Sl) al [0,2,3,4,5,6,7,8,9,11,22,43,82] (λz=>[(12,z.2.v),(13,iv ((pX (B.take z.1) (U.take z.1)).length:Nat)),(14,iv (z.1:Int))]) (λz w'=>z.1<=B.length/\((pX (B.take z.1) (U.take z.1)).flatMap gC).length<=z.1*3000/\∃V',Sub V7 V'/\aF V' z.2 ((pX (B.take z.1) (U.take z.1)).flatMap gC)/\Rel W V [.ay b8 (a8 h3) 27,.ay b2 (a8 aV) 27] V' w') (λz _=>B.length-z.1) (0,⟨none,0,0⟩) ?_;conv=>whnf
 refine⟨sB,⟨cE _,cE _,V7,aS _,aA.nil _ _,H3⟩,?_⟩;clear H3;rintro⟨k,r⟩w⟨hk,dF,V8,l5,D9,H⟩;dsimp only at hk dF D9 H |-;have hdl:=acg (B.take k) (U.take k);rw[bg]at hdl;obtain⟨D,hD⟩:∃D,D=pX (B.take k) (U.take k):=⟨_,rfl⟩
 rw[<-hD]at dF D9 hdl |-;by_cases hlt:k<B.length;rotate_left
 ·rw[bJ aa,bJ aa]at hD;rw[<-hD];have Dz:=o9.trans l5;have UR:=uJ.up (Mi.trans l5);by_cases h0:D=[]
  ·have qh:D.length=0:=by rw[h0];rfl
   rw[show nN D=[]by rw[h0];rfl];refine H.wg ?_;intro w H;exact⟨V8,h3,⟨none,0,0⟩,v,[],Dz,H.sx,UR,aA.nil _ _,rfl,rfl⟩
  have qh:D.length≠0:=λh=>h0 (dt h);have er:nN D=az (D.length:Int)++D.flatMap gC:=by unfold nN;rw[ae h0];rfl
  have hpn:=dq (n:=(D.length:Int)) aa aa;rw[er];refine wk ?_;refine dV 19 [2,4] [0,1,3,2,4,5,6,7] H ?_;intro w H;refine wk ?_;refine(iR (n:=(D.length:Int)) H.data ⟨aa,aa⟩).use ?_;rintro v w⟨rq,rfl,K⟩;replace H:=Rel.call H K;simp only[bb,aL]at H;obtain⟨Va,xV,H,ha⟩:=Rel.aJ H;refine wk ?_;refine(lf H.data ha (D9.up xV) aa).use ?_;rintro v w⟨rj,rfl,K⟩;replace H:=Rel.call H K;simp only[bb,aL]at H;obtain⟨Vb,vL,H,hb⟩:=Rel.aJ H;refine H.wg ?_;intro w H;exact⟨Vb,h3,rj,_,_,(Dz.trans xV).trans vL,H.sx,(UR.up xV).up vL,hb,rfl,rfl⟩
 have Ut:k<U.length:=aa;obtain⟨p0,c0⟩:=(hy.up l5).aR (g:=str) (λ_=>rfl) hlt;obtain⟨p1,c1⟩:=(UO.up l5).aR (g:=str) (λ_=>rfl) Ut;have hst:=ach hlt Ut;rw[<-hD]at hst;have hbb:=hBb _ (bS hlt);obtain⟨bk,hbk⟩:∃bk,bk=B[k]:=⟨_,rfl⟩
 obtain⟨uk,huk⟩:∃uk,uk=U[k]:=⟨_,rfl⟩
 rw[<-hbk]at c0 hst hbb;rw[<-huk]at c1 hst;refine wk ?_;refine dV 14 [] [0,1,2,3,4,5,6,7,8] H ?_;intro w H;refine wk ?_;by_cases he:bk=uk
 ·rw[ag he,aZ]at hst;refine C1 (by simp[he]) ?_;refine wk ?_;refine⟨sB,(k+1,r),⟨rfl,by rw[hst];rfl,rfl,trivial⟩,⟨by dsimp only;omega,by dsimp only;rw[hst];omega,V8,l5,by dsimp only;rw[hst];exact D9,H⟩,by dsimp only;omega⟩
 rw[ae he]at hst;have hpn:=dq (n:=(k:Int)) aa aa;have M6:=rW (b:=bk) aa;refine pW (by simp[he]) ?_;refine wk ?_;refine dX (id:=15) V8 [2] [6] [0,1,3,4,5,6,2,7,8,9,10,11] [(2,[]),(7,[]),(8,[2,7]),(9,[2,7,8]),(10,[2,7,8,9])] H ?_;intro w H;repeat' (refine wk ?_;first|(first|refine Kv.go H ?_|refine Kv.go2 H (by assumption) ?_|refine jI ?_|refine And.intro ?_ ?_|(refine H.nA ?_;intro w _ H))|(refine(iR (n:=(k:Int)) H.data ⟨aa,aa⟩).use ?_;rintro v w⟨rq,rfl,K⟩;(replace H:=Rel.call H K);simp only[bb,aL]at H)|(refine Rel.Ru Tryz.underlying9 Tryz.underlying22 Tryz.underlying5 H bk ?_;intro Vc sc w hec Mj l9 H)|(refine(Ov (b:=bk) H.data l9 aa).use ?_;rintro v w⟨rc,rfl,K⟩;(replace H:=Rel.call H K);simp only[bb,aL]at H))
 all_goals
  refine wk ?_;obtain⟨Va,xV,H,ha⟩:=Rel.aJ H;obtain⟨Vb,vL,H,hb⟩:=Rel.aJ H;refine(lf H.data hb (ha.up vL) aa).use ?_;rintro v w⟨rj,rfl,K⟩;replace H:=Rel.call H K;simp only[bb,aL]at H;obtain⟨Vd,Mk,H,hd⟩:=Rel.aJ H;have TN:=((Mj.trans xV).trans vL).trans Mk;refine wk ?_;refine(lf H.data (D9.up TN) hd (by rw[ak];omega)).use ?_;rintro v w⟨rk,rfl,K⟩;replace H:=Rel.call H K;simp only[bb,aL]at H;obtain⟨Ve,AQ,H,he⟩:=Rel.aJ H;refine wk ?_;have HU:(D++[(k,bk)]).flatMap gC=D.flatMap gC++(az (k:Int)++eh bk):=by simp[gC]
  refine⟨sB,(k+1,rk),⟨rfl,by rw[hst,ak];rfl,rfl,trivial⟩,⟨by dsimp only;omega,by dsimp only;rw[hst,HU,ak,ak];omega,Ve,l5.trans (TN.trans AQ),by dsimp only;rw[hst,HU];exact he,H.sx⟩,by dsimp only;omega⟩
abbrev gI(n:Nat):aC:=[iv (n:Int)]
structure Qx(W V:ad)(l:ab)(v:aj)(w':ad):Prop where
 ex:∃(V':ad) (r:Sl),Sub V V'/\Rel W V [] V' w'/\v=r.v/\aF V' r l
structure ZV(W V:ad)(o:Option (Nat×Nat))(v:aj)(w':ad):Prop where
 ex:∃(V':ad),Sub V V'/\Rel W V [] V' w'/\v=(match o with
  | none=>.tuple #[iv 0,iv 0]
  | some (c,n)=>.tuple #[iv (c:Int),iv (n:Int)])
structure QB(W V:ad)(o:Option au)(v:aj)(w':ad):Prop where
 ex:∃(V':ad) (r:Sl),Sub V V'/\Rel W V [] V' w'/\(match o with
  | none=>v=.tuple #[.slice none 0 0,.bool false]
  | some l=>v=.tuple #[r.v,.bool true]/\aA gI V' r l)
theorem QU{p:Nat}(h:p+i<l.length):at8 (l.drop p) i=l[p+i].toNat:=by simp[at8,List.getElem?_drop,h]
theorem aay(l:ab)(c k:Nat):nV l c (k+1)=64*nV l c k+(at8 l (k+1)-128):=rfl
theorem aaz{A x:Nat}(h:128<=x):64*(A:Int)+(x:Int)-128=((64*A+(x-128):Nat):Int):=aa
theorem Zn(hV:Sub V W){c:Nat}(hc:eg c):aB 103 [iv (c:Int)] W (Qx W V (bR c)):=by
 have H:=aG hV;have hlt:=uN hc;obtain⟨z,hz⟩:∃z:Int,z=(c:Int):=⟨_,rfl⟩
 rw[<-hz];unfold bR;refine eV Tryz.func103 54 [0,2,4,9,20] ?_;by_cases h1:c<128
 ·rw[ag h1];refine H.wn ?_;intro w b1 H;rw[hz,nS aa]at H;replace H:=H.cB (c':=[aD c].flatMap aI) (by simp only[bD,eL,aI,bv,bb,aL,dB (show c<256 by omega)]);obtain⟨V2,hV2,H,hb⟩:=H.cU;refine wk ?_;exact⟨V2,⟨some ⟨b1,0,none⟩,1,1⟩,hV2,H.sx,rfl,rfl,aQ _,hb.cells⟩
 rw[ae h1];by_cases h2:c<2048
 ·rw[ag h2];refine H.wn ?_;intro w b1 H;rw[show 192+z/64=((192+c/64:Nat):Int)by omega,show 128+z%64=((128+c%64:Nat):Int)by omega,nS aa,nS aa]at H;replace H:=H.cB (c':=[aD (192+c/64),aD (128+c%64)].flatMap aI) (by simp only[bD,eL,aI,bv,bb,aL,dB (show 192+c/64<256 by omega),dB (show 128+c%64<256 by omega)]);obtain⟨V2,hV2,H,hb⟩:=H.cU;refine wk ?_;exact⟨V2,⟨some ⟨b1,0,none⟩,2,2⟩,hV2,H.sx,rfl,rfl,aQ _,hb.cells⟩
 rw[ae h2];by_cases h3:c<65536
 ·rw[ag h3];refine H.wn ?_;intro w b1 H;rw[show 224+z/4096=((224+c/4096:Nat):Int)by omega,show 128+z/64%64=((128+c/64%64:Nat):Int)by omega,show 128+z%64=((128+c%64:Nat):Int)by omega,nS aa,nS aa,nS aa]at H;replace H:=H.cB (c':=[aD (224+c/4096),aD (128+c/64%64),aD (128+c%64)].flatMap aI) (by simp only[bD,eL,aI,bv,bb,aL,dB (show 224+c/4096<256 by omega),dB (show 128+c/64%64<256 by omega),dB (show 128+c%64<256 by omega)]);obtain⟨V2,hV2,H,hb⟩:=H.cU;refine wk ?_;exact⟨V2,⟨some ⟨b1,0,none⟩,3,3⟩,hV2,H.sx,rfl,rfl,aQ _,hb.cells⟩
 rw[ae h3];refine H.wn ?_;intro w b1 H;rw[show 240+z/262144=((240+c/262144:Nat):Int)by omega,show 128+z/4096%64=((128+c/4096%64:Nat):Int)by omega,show 128+z/64%64=((128+c/64%64:Nat):Int)by omega,show 128+z%64=((128+c%64:Nat):Int)by omega,nS aa,nS aa,nS aa,nS aa]at H;replace H:=H.cB (c':=[aD (240+c/262144),aD (128+c/4096%64),aD (128+c/64%64),aD (128+c%64)].flatMap aI) (by simp only[bD,eL,aI,bv,bb,aL,dB (show 240+c/262144<256 by omega),dB (show 128+c/4096%64<256 by omega),dB (show 128+c/64%64<256 by omega),dB (show 128+c%64<256 by omega)]);obtain⟨V2,hV2,H,hb⟩:=H.cU;refine wk ?_;exact⟨V2,⟨some ⟨b1,0,none⟩,4,4⟩,hV2,H.sx,rfl,rfl,aQ _,hb.cells⟩
theorem abl(hV:Sub V W){s:Sl}{b:ab}(hs:aF V s b)(hl:b.length<=1000000000){p:Nat}(hp:p<b.length):aB 185 [s.v,iv (p:Int)] W (ZV W V (nh (b.drop p))):=by
 have H:=aG hV;have hlen:=hs.len;have ha:at8 (b.drop p) 0=b[p].toNat:=QU (i:=0) hp;have Nu:=ZK (b[p].toNat);have mG:=b[p].toNat_lt;have hdl:(b.drop p).length=b.length-p:=aU;obtain⟨p0,c0⟩:=hs.aR (g:=bv) (λ_=>rfl) hp;unfold nh;rw[ha];obtain⟨a,vM⟩:∃a,a=b[p].toNat:=⟨_,rfl⟩
 rw[<-vM]at ha Nu mG |-;change _=some (bO .u8 (b[p].toNat:Nat))at c0;rw[<-vM]at c0;refine nX al Tryz.func185 rfl av 72 rfl ah [0,1,4,5,6,7,8,9,10,18,22,26,30,36,39,51,69] ?_;refine aM.cA al ?_;refine wk ?_;refine aM.cA al ?_;refine wk ?_;refine aM.cA al ?_;refine wk ?_;refine aM.cA al ?_;refine wk ?_;by_cases hbad:128<=a/\a<192
 ·have hw:ji a=0:=aa;rw[hw,ae (λh=>by have:=h.pos;omega)];refine aM.go al ?_;refine wk ?_;exact⟨V,aS _,H.sx,rfl⟩
 obtain⟨n,hn⟩:∃n,n=ji a:=⟨_,rfl⟩
 obtain⟨c1,hc1⟩:∃c,c=mI a:=⟨_,rfl⟩
 have vY:kv (b.drop p)=nV (b.drop p) c1 (n-1):=by unfold kv;rw[ha,<-hn,<-hc1]
 rw[<-hn,<-hc1]at Nu;rw[<-hn,vY];refine aM.lq al (λ_:Unit=>[(0,s.v),(1,iv (p:Int)),(6,iv (a:Int)),(7,iv (n:Int)),(8,iv (c1:Int))]) (λ_ w'=>w'=W) ?_ ?_
 ·clear vY;rcases Nu with⟨h1,h2,h3⟩|⟨h1,h2,h3,h4⟩|⟨h1,h2,h3,h4⟩|⟨h1,h2,h3,h4⟩|⟨h1,h2,h3⟩
  ·rw[h2,h3];refine wk ?_;exact⟨(),sB,rfl⟩
  ·omega
  ·rw[h3,h4,show((a-192:Nat):Int)=(a:Int)-192 by omega];refine wk ?_;exact⟨(),sB,rfl⟩
  ·rw[h3,h4,show((a-224:Nat):Int)=(a:Int)-224 by omega];refine wk ?_;exact⟨(),sB,rfl⟩
  rw[h2,h3,show((a-240:Nat):Int)=(a:Int)-240 by omega];refine wk ?_;exact⟨(),sB,rfl⟩
 rintro _ w rfl;have MT:1<=n/\n<=4:=aa;have DG:c1<256:=aa;obtain⟨l,hle⟩:∃l,l=b.drop p:=⟨_,rfl⟩
 rw[<-hle]at hdl |-;have Mm:∀k,k<4->nV l c1 k<1000000000:=by
  have b1:at8 l 1<256:=dm _;have b2:at8 l 2<256:=dm _;have b3:at8 l 3<256:=dm _;intro k hk;obtain rfl|rfl|rfl|rfl:k=0\/k=1\/k=2\/k=3:=aa
  ·rw[KA];omega
  ·rw[Gn];omega
  ·rw[Gp];omega
  rw[Gq];omega
 refine aM.go al ?_;by_cases hnl:n<=l.length;rotate_left
 ·rw[ae (λh=>hnl h.le)];refine wk ?_;exact⟨V,aS _,H.sx,rfl⟩
 refine wk ?_;refine aP (S:=Nat) al [0,1,6,7,18,22,26,30,36,69] (λj=>[(9,iv ((j+1:Nat):Int)),(8,iv (nV l c1 j:Nat))]) (λj w'=>j+1<=n/\(∀i,i<j+1->0<i->il l i)/\Rel w V [] V w') (λj _=>n-j) 0 ?_;conv=>whnf
 refine⟨sB,⟨MT.1,λi h1 h2=>by omega,H⟩,?_⟩;clear H;rintro j w⟨hj,htl,H⟩;dsimp only at hj htl H |-;have hj4:=Mm j aa;by_cases hlt:j+1<n
 ·obtain⟨q0,d0⟩:=hs.aR (g:=bv) (λ_=>rfl) (show p+(j+1)<b.length by omega);have hat:at8 l (j+1)=b[p+(j+1)].toNat:=(ax (at8 · (j+1)) hle).trans (QU aa);have hx:=b[p+(j+1)].toNat_lt;obtain⟨x,uK⟩:∃x,x=b[p+(j+1)].toNat:=⟨_,rfl⟩
  rw[<-uK]at hat hx;change _=some (bO .u8 (b[p+(j+1)].toNat:Nat))at d0;rw[<-uK]at d0;refine wk ((gd (x:Int) 128 191 w).use ?_);rintro q w'⟨rfl,rfl⟩;by_cases ht:il l (j+1)
  ·unfold il at ht;rw[bw (show(128:Int)<=(x:Int)/\(x:Int)<=191 by omega)];refine wk ?_;have e1:((j+1:Nat):Int)+1=((j+1+1:Nat):Int):=aa;have e2:64*((nV l c1 j:Nat):Int)+(x:Int)-128=((nV l c1 (j+1):Nat):Int):=by rw[aay,hat];exact aaz (by rw[<-hat];exact ht.1)
   refine⟨sB,j+1,⟨ax (λz=>some (iv z)) e1,ax (λz=>some (iv z)) e2,trivial⟩,⟨aa,λi h1 h2=>?_,H⟩,aa⟩;by_cases hi:i=j+1
   ·rw[hi];exact ht
   exact htl i aa h2
  rw[ae (λh=>ht (h.tl _ hlt aa))];unfold il at ht;rw[bA (show ¬((128:Int)<=(x:Int)/\(x:Int)<=191)by omega)];refine wk ?_;exact⟨V,aS _,H.sx,rfl⟩
 obtain rfl:n=j+1:=aa;rw[Nat.add_sub_cancel];obtain⟨c,kH⟩:∃c,c=nV l c1 j:=⟨_,rfl⟩
 rw[<-kH]at hj4 |-;obtain⟨z,hz⟩:∃z:Int,z=(c:Int):=⟨_,rfl⟩
 rw[<-hz];by_cases hch:eg c
 ·have UN:=nP c;unfold eg at hch;refine wk ((gd z 55296 57343 w).use ?_);rintro q w'⟨rfl,rfl⟩;rw[bA (show ¬((55296:Int)<=z/\z<=57343)by omega)];refine wk ?_;rw[hz];refine(Zn H.data hch).use ?_;rintro v w⟨V3,r,aw,K,rfl,hr⟩;replace H:=H.bd K;have hrl:=hr.len;rw[vf]at hrl;by_cases hu:kD c=j+1
  ·rw[ag ⟨aa,hnl,htl,hch,hu⟩];refine wk ?_;exact⟨V3,aw,H.sx,rfl⟩
  rw[ae (λh=>hu h.sh)];refine wk ?_;exact⟨V3,aw,H.sx,rfl⟩
 rw[ae (λh=>hch h.ch)];unfold eg at hch;by_cases hg:c<1114112
 ·refine wk ((gd z 55296 57343 w).use ?_);rintro q w'⟨rfl,rfl⟩;rw[bw (show(55296:Int)<=z/\z<=57343 by omega)];refine wk ?_;exact⟨V,aS _,H.sx,rfl⟩
 refine wk ?_;exact⟨V,aS _,H.sx,rfl⟩
structure aab(W V:ad)(p:au×Nat)(v:aj)(w':ad):Prop where
 ex:∃(V':ad) (r:Sl),Sub V V'/\Rel W V [] V' w'/\v=.tuple #[r.v,iv (p.2:Int)]/\aA gI V' r p.1
theorem aA.GH{s:Sl}(h:aF V s l){i:Nat}(hi:i<l.length):Plain s.a/\V.cell? ⟨bW s.a,bM s.a+i,none⟩=some (.int .u8 (at8 l i:Nat)):=by obtain⟨g1,g2⟩:=h.aR (g:=bv) (λ_=>rfl) hi;exact⟨g1,by rw[g2,qU hi]⟩
theorem aA.tl{f:α->aC}{s:Sl}{l:List α}(h:aA f V s l)(hf:∀x,(f x).length=n){k:Nat}(hk:k<=l.length):aA f V ⟨bo s.a k s.cap n,s.len-k,s.cap-k⟩ (l.drop k):=by have:=h.sub hf (a:=k) (b:=l.length) hk (aQ _);rw[List.take_length]at this;rw[h.len];exact this
theorem LK(o:Option (List α))(xs ys:List α):(o.map (ys++·)).map (xs++·)=o.map ((xs++ys)++·):=by cases o<;>simp
theorem abn(hV:Sub V W){s:Sl}{b:ab}(hs:aF V s b)(hl:b.length<=1000000000):aB 108 [s.v] W (QB W V (chars b)):=by
 have H:=aG hV;have hlen:=hs.len;refine eV Tryz.func108 28 [0,2,3,4,5,6,7,11,19] ?_;refine wk ?_;replace H:=H.br 3 1;refine aP (S:=Nat×Sl×au) al [0] (λq=>[(5,iv q.1),(4,q.2.1.v)]) (λq w'=>q.1<=b.length/\chars b=(chars (b.drop q.1)).map (q.2.2++·)/\q.2.2.length<=q.1/\∃V',Sub V V'/\Rel W V [.row q.2.1 3 1 (q.2.2.flatMap gI)] V' w') (λq _=>b.length-q.1) (0,⟨none,0,0⟩,[]) ?_;conv=>whnf
 refine⟨sB,⟨aa,ah,aQ _,V,aS _,H⟩,?_⟩;clear H;rintro⟨p,r,out⟩w⟨hp,heq,dF,V3,aw,H⟩;dsimp only at hp heq dF H |-;by_cases hlt:p<b.length
 ·have hne:b.drop p≠[]:=by intro e;have:=ax bU e;rw[aU,aK]at this;omega
  rw[CU hne]at heq;refine wk ((abl H.data (hs.up aw) hl hlt).use ?_);rintro v w⟨V4,ar,K,rfl⟩;replace H:=H.bd K;cases rf:nh (b.drop p)with
  | none =>rw[rf]at heq;rw[heq];refine wk ?_;exact⟨V4,⟨none,0,0⟩,aw.trans ar,H.sx,rfl⟩
  | some x =>obtain⟨c,n⟩:=x;obtain⟨hch,jT,hn2,_⟩:=xv rf;have hcl:=uN hch;have UN:=nP c;rw[aU]at hn2;rw[rf]at heq;dsimp only at heq |-;rw[show((chars ((b.drop p).drop n)).map (c::·))=((chars (b.drop (p+n))).map ([c]++·))by rw[gK];rfl,LK]at heq;refine H.wg ?_;intro _ w H;refine Rel.bF (f:=gI) (l:=out) (x:=c) rfl (λ_=>rfl) (bc.1 rfl) H (by show(out.length+1)*8<=_;first|omega|(simp only[aW,gq];omega)) (by first|omega|(simp only[aW,gq];omega)) ?_;intro rn w H;refine wk ?_;exact⟨sB,(p+n,rn,out++[c]),sB,⟨by dsimp only;omega,heq,by dsimp only;rw[ak,bT];omega,V4,aw.trans ar,H.sx⟩,by dsimp only;omega⟩
 rw[fc aa,KP,gQ,aZ]at heq;rw[heq];obtain⟨V4,ar,H,hr⟩:=Rel.aJ H;refine wk ?_;exact⟨V4,r,aw.trans ar,H.sx,rfl,hr⟩
structure aac(W V:ad)(l:au)(v:aj)(w':ad):Prop where
 ex:∃(V':ad) (r:Sl),Sub V V'/\Rel W V [] V' w'/\v=r.v/\aA gI V' r l
theorem Zc(big:Bool)(b:ab)(k:Nat):(bZ (k+1)).map (j1 big b)=(bZ k).map (j1 big b)++[j1 big b k]:=by rw[List.range_succ,dU];rfl
theorem Zb(hV:Sub V W){s:Sl}{b:ab}(hs:aF V s b)(hl:b.length<=1000000000)(big:Bool):aB 184 [s.v,.bool big] W (aac W V (gV big b)):=by
 have H:=aG hV;have hlen:=hs.len;refine eV Tryz.func184 48 [0,1,4,5,6,11,14] ?_;refine wk ?_;replace H:=H.br 3 1;refine aP (S:=Nat×Sl) al [0,1,4] (λq=>[(6,iv ((2*q.1:Nat):Int)),(5,q.2.v)]) (λq w'=>q.1<=b.length/2/\Rel W V [.row q.2 3 1 (((bZ q.1).map (j1 big b)).flatMap gI)] V w') (λq _=>b.length/2-q.1) (0,⟨none,0,0⟩) ?_;conv=>whnf
 refine⟨sB,⟨aa,H⟩,?_⟩;clear H;rintro⟨k,r⟩w⟨hk,H⟩;dsimp only at hk H |-;by_cases hlt:k<b.length/2
 ·obtain⟨p0,c0⟩:=hs.GH (i:=2*k) aa;obtain⟨p1,c1⟩:=hs.GH (i:=2*k+1) aa;have h0:at8 b (2*k)<256:=dm _;have h1:at8 b (2*k+1)<256:=dm _;have e1:((2*k:Nat):Int)+2=((2*(k+1):Nat):Int):=aa;cases big with
  | true =>have eu:j1 true b k=256*at8 b (2*k)+at8 b (2*k+1):=rfl;refine wk ?_;refine eJ (id:=6) al mixed [] [0,1,2,3,4,5,6,7,8,9,10,11,12,13,14,15,16] av ?_;intro w bG;replace H:=Rel.ext H bG.ext;refine H.wg ?_;intro _ w H;rw[show 256*((at8 b (2*k):Nat):Int)+((at8 b (2*k+1):Nat):Int)=((j1 true b k:Nat):Int)by rw[eu];omega]at H;refine Rel.bF (f:=gI) (l:=((bZ k).map (j1 true b))) (x:=(j1 true b k)) rfl (λ_=>rfl) (bc.1 rfl) H (by show(((bZ k).map (j1 true b)).length+1)*8<=_;first|omega|(simp only[aW,gq];omega)) (by first|omega|(simp only[aW,gq];omega)) ?_;intro rn w H;refine wk ?_;refine⟨sB,(k+1,rn),⟨ax (λz=>some (iv z)) e1,rfl,trivial⟩,⟨by dsimp only;omega,?_⟩,by dsimp only;omega⟩;dsimp only;rw[Zc];exact H.sx
  | false =>have eu:j1 false b k=256*at8 b (2*k+1)+at8 b (2*k):=rfl;refine wk ?_;refine eJ (id:=7) al mixed [] [0,1,2,3,4,5,6,7,8,9,10,11,12,13,14,15,16] av ?_;intro w bG;replace H:=Rel.ext H bG.ext;refine H.wg ?_;intro _ w H;rw[show 256*((at8 b (2*k+1):Nat):Int)+((at8 b (2*k):Nat):Int)=((j1 false b k:Nat):Int)by rw[eu];omega]at H;refine Rel.bF (f:=gI) (l:=((bZ k).map (j1 false b))) (x:=(j1 false b k)) rfl (λ_=>rfl) (bc.1 rfl) H (by show(((bZ k).map (j1 false b)).length+1)*8<=_;first|omega|(simp only[aW,gq];omega)) (by first|omega|(simp only[aW,gq];omega)) ?_;intro rn w H;refine wk ?_;refine⟨sB,(k+1,rn),⟨ax (λz=>some (iv z)) e1,rfl,trivial⟩,⟨by dsimp only;omega,?_⟩,by dsimp only;omega⟩;dsimp only;rw[Zc];exact H.sx
 obtain rfl:k=b.length/2:=aa;obtain⟨V4,ar,H,hr⟩:=Rel.aJ H;refine wk ?_;exact⟨V4,r,ar,H.sx,rfl,hr⟩
theorem Tg(hV:Sub V W){s:Sl}{us:au}(hs:aA gI V s us)(hl:us.length<=1000000000)(hu:∀u∈us,u<65536):aB 183 [s.v] W (QB W V (dY us)):=by
 have H:=aG hV;have hlen:=hs.len;refine eV Tryz.func183 64 [0,2,3,4,5,9,16,22,43] ?_;refine wk ?_;replace H:=H.br 3 1;refine aP (S:=Nat×Sl×au) al [0] (λq=>[(5,iv q.1),(4,q.2.1.v)]) (λq w'=>q.1<=us.length/\dY us=(dY (us.drop q.1)).map (q.2.2++·)/\q.2.2.length<=q.1/\Rel W V [.row q.2.1 3 1 (q.2.2.flatMap gI)] V w') (λq _=>us.length-q.1) (0,⟨none,0,0⟩,[]) ?_;conv=>whnf
 refine⟨sB,⟨aa,ah,aQ _,H⟩,?_⟩;clear H;rintro⟨p,r,out⟩w⟨hp,heq,dF,H⟩;dsimp only at hp heq dF H |-;by_cases hlt:p<us.length
 ·obtain⟨p0,c0⟩:=hs.aR (g:=λu:Nat=>iv (u:Int)) (λ_=>rfl) hlt;have k9:=hu _ (bS hlt);rw[dk hlt]at heq;obtain⟨u,hue⟩:∃u,u=us[p]:=⟨_,rfl⟩
  rw[<-hue]at c0 k9 heq;obtain⟨z,hz⟩:∃z:Int,z=(u:Int):=⟨_,rfl⟩
  rw[<-hz]at c0;refine wk ((gd z 56320 57343 _).use ?_);rintro q w'⟨rfl,rfl⟩;by_cases uD:hY u
  ·rw[Kg uD]at heq;unfold hY at uD;rw[heq,bw (show(56320:Int)<=z/\z<=57343 by omega)];refine wk ?_;exact⟨V,⟨none,0,0⟩,aS _,H.sx,rfl⟩
  rw[bA (show ¬((56320:Int)<=z/\z<=57343)by unfold hY at uD;omega)];refine wk ((gd z 55296 56319 _).use ?_);rintro q w'⟨rfl,rfl⟩;by_cases kK:iP u;rotate_left
  ·rw[Kh uD kK,show((dY (us.drop (p+1))).map (u::·))=((dY (us.drop (p+1))).map ([u]++·))from rfl,LK]at heq;rw[bA (show ¬((55296:Int)<=z/\z<=56319)by unfold iP at kK;omega)];refine H.wg ?_;intro _ w H;rw[hz]at H;refine Rel.bF (f:=gI) (l:=out) (x:=u) rfl (λ_=>rfl) (bc.1 rfl) H (by show(out.length+1)*8<=_;first|omega|(simp only[aW,gq];omega)) (by first|omega|(simp only[aW,gq];omega)) ?_;intro rn w H;refine wk ?_;exact⟨sB,(p+1,rn,out++[u]),sB,⟨by dsimp only;omega,heq,by dsimp only;rw[ak,bT];omega,H.sx⟩,by dsimp only;omega⟩
  rw[bw (show(55296:Int)<=z/\z<=56319 by unfold iP at kK;omega)];by_cases hl1:p+1<us.length;rotate_left
  ·rw[zH kK _ (λv k e=>by rw[fc aa]at e;cases e)]at heq;rw[heq];refine wk ?_;exact⟨V,⟨none,0,0⟩,aS _,H.sx,rfl⟩
  obtain⟨_,c1⟩:=hs.aR (g:=λu:Nat=>iv (u:Int)) (λ_=>rfl) hl1;have jn:=hu _ (bS hl1);rw[dk hl1]at heq;obtain⟨v,Nr⟩:∃v,v=us[p+1]:=⟨_,rfl⟩
  rw[<-Nr]at c1 jn heq;obtain⟨y,hy⟩:∃y:Int,y=(v:Int):=⟨_,rfl⟩
  rw[<-hy]at c1;refine wk ((gd y 56320 57343 _).use ?_);rintro q w'⟨rfl,rfl⟩;by_cases H5:hY v;rotate_left
  ·rw[zH kK _ (λv' k e=>by cases e;exact H5)]at heq;unfold hY at H5;rw[heq,bA (show ¬((56320:Int)<=y/\y<=57343)by omega)];refine wk ?_;exact⟨V,⟨none,0,0⟩,aS _,H.sx,rfl⟩
  rw[Ki kK H5,show((dY (us.drop (p+1+1))).map ((65536+1024*(u-55296)+(v-56320))::·))=((dY (us.drop (p+1+1))).map ([65536+1024*(u-55296)+(v-56320)]++·))from rfl,LK]at heq;unfold hY at H5;unfold iP at kK;rw[bw (show(56320:Int)<=y/\y<=57343 by omega)];obtain⟨x,hx⟩:∃x,x=65536+1024*(u-55296)+(v-56320):=⟨_,rfl⟩
  rw[<-hx]at heq;refine wk ?_;refine eJ (id:=11) al mixed [] [0,1,2,3,4,5,6,7,8,9,10,11,12,13,14,15,16,17] av ?_;intro w bG;replace H:=Rel.ext H bG.ext;refine H.wg ?_;intro _ w H;rw[show 65536+1024*(z-55296)+y-56320=((x:Nat):Int)by omega]at H;refine Rel.bF (f:=gI) (l:=out) (x:=x) rfl (λ_=>rfl) (bc.1 rfl) H (by show(out.length+1)*8<=_;first|omega|(simp only[aW,gq];omega)) (by first|omega|(simp only[aW,gq];omega)) ?_;intro rn w H;refine wk ?_;refine⟨sB,(p+2,rn,out++[x]),⟨ax (λz=>some (iv z)) (by dsimp only;omega),rfl,trivial⟩,⟨by dsimp only;omega,heq,by dsimp only;rw[ak,bT];omega,H.sx⟩,by dsimp only;omega⟩
 rw[fc aa,show dY []=some []from rfl,gQ,aZ]at heq;rw[heq];obtain⟨V4,ar,H,hr⟩:=Rel.aJ H;refine wk ?_;exact⟨V4,r,ar,H.sx,rfl,hr⟩
theorem JY(h:2<=b.length)(x y:UInt8):b.take 2=[x,y]↔at8 b 0=x.toNat/\at8 b 1=y.toNat:=by
 rcases b with _|⟨b0,_|⟨b1,r⟩⟩
 ·simp at h
 ·simp at h
 simp[at8,bL]
theorem ac2(hV:Sub V W){s:Sl}{b:ab}(hs:aF V s b)(hl:b.length<=1000000000):aB 101 [s.v] W (aab W V (gO b)):=by
 have H:=aG hV;have hlen:=hs.len;have og:=hs.cap;have pf:(b.drop 2).length=b.length-2:=aU;have c0:∀h:0<b.length,_:=λh=>hs.GH h;have c1:∀h:1<b.length,_:=λh=>hs.GH h;refine nX al Tryz.func101 rfl av 105 rfl ah [0,2,3,4,5,6,7,8,9,10,11,32,40,62,70,77,86,93] ?_;refine aM.cA al ?_;refine wk ?_;refine aM.lq al (λ_:Unit=>[(0,s.v)]) (λ_ w'=>gL true b=none/\Rel W V [] V w') ?_ ?_
 ·by_cases hb2:2<=b.length;rotate_left
  ·have hu:gL true b=none:=by unfold gL;rw[ae (λh=>hb2 h.1)]
   refine wk ?_;exact⟨(),sB,hu,H⟩
  obtain⟨p0,c0⟩:=c0 aa;obtain⟨_,c1⟩:=c1 aa;by_cases he:2<=b.length/\b.length%2=0/\at8 b 0=254/\at8 b 1=255
  ·obtain⟨h1,h2,h3,h4⟩:=he;have he:2<=b.length/\b.length%2=0/\at8 b 0=254/\at8 b 1=255:=⟨h1,h2,h3,h4⟩
   ·have Dj:=he.1;have e2:gL true b=dY (gV true (b.drop 2)):=by unfold gL;rw[ag ⟨he.1,he.2.1,(JY he.1 _ _).2 (by simpa using he.2.2)⟩]
    refine wk ?_;refine(Zb H.data (hs.tl (n:=1) (λ_=>rfl) (k:=2) Dj) aa true).use ?_;rintro v w⟨V3,r3,aw,K,rfl,hr3⟩;replace H:=H.bd K;refine wk ?_;refine(Tg H.data hr3 (by rw[show gV true (b.drop 2)=(bZ ((b.drop 2).length/2)).map (j1 true (b.drop 2))from rfl,aW,gq];omega) (λu hu=>by obtain⟨k,_,rfl⟩:=cJ.1 hu;exact Kf _ _ _)).use ?_
    rintro v w⟨V4,r4,ar,K,hres⟩;replace H:=H.bd K;cases hd:dY (gV true (b.drop 2))with
    | none =>rw[hd]at hres e2;obtain rfl:=hres;refine wk ?_;exact⟨(),sB,e2,(H.less (aS _) (aw.trans ar))⟩
    | some cs =>
     rw[hd]at hres e2;obtain⟨rfl,hr⟩:=hres;have ef:gO b=(cs,2):=by unfold gO;rw[e2]
     rw[ef];refine wk ?_;exact⟨V4,r4,(aw.trans ar),H.sx,rfl,hr⟩
  have hu:gL true b=none:=by unfold gL;rw[ae (λh=>he ⟨h.1,h.2.1,by simpa using(JY h.1 _ _).1 h.2.2⟩)]
  have q1:=hb2;by_cases q2:b.length%2=0;rotate_left
  ·refine wk ?_;exact⟨(),sB,hu,H⟩
  by_cases q3:at8 b 0=254;rotate_left
  ·refine wk ?_;exact⟨(),sB,hu,H⟩
  have q4:¬at8 b 1=255:=λh=>he ⟨q1,q2,q3,h⟩;refine wk ?_;exact⟨(),sB,hu,H⟩
 rintro _ w⟨jn,H⟩;refine aM.lq al (λ_:Unit=>[(0,s.v)]) (λ_ w'=>gL false b=none/\Rel W V [] V w') ?_ ?_
 ·by_cases hb2:2<=b.length;rotate_left
  ·have hu:gL false b=none:=by unfold gL;rw[ae (λh=>hb2 h.1)]
   refine wk ?_;exact⟨(),sB,hu,H⟩
  obtain⟨p0,c0⟩:=c0 aa;obtain⟨_,c1⟩:=c1 aa;by_cases he:2<=b.length/\b.length%2=0/\at8 b 0=255/\at8 b 1=254
  ·obtain⟨h1,h2,h3,h4⟩:=he;have he:2<=b.length/\b.length%2=0/\at8 b 0=255/\at8 b 1=254:=⟨h1,h2,h3,h4⟩
   ·have Dj:=he.1;have e2:gL false b=dY (gV false (b.drop 2)):=by unfold gL;rw[ag ⟨he.1,he.2.1,(JY he.1 _ _).2 (by simpa using he.2.2)⟩]
    refine wk ?_;refine(Zb H.data (hs.tl (n:=1) (λ_=>rfl) (k:=2) Dj) aa false).use ?_;rintro v w⟨V3,r3,aw,K,rfl,hr3⟩;replace H:=H.bd K;refine wk ?_;refine(Tg H.data hr3 (by rw[show gV false (b.drop 2)=(bZ ((b.drop 2).length/2)).map (j1 false (b.drop 2))from rfl,aW,gq];omega) (λu hu=>by obtain⟨k,_,rfl⟩:=cJ.1 hu;exact Kf _ _ _)).use ?_
    rintro v w⟨V4,r4,ar,K,hres⟩;replace H:=H.bd K;cases hd:dY (gV false (b.drop 2))with
    | none =>rw[hd]at hres e2;obtain rfl:=hres;refine wk ?_;exact⟨(),sB,e2,(H.less (aS _) (aw.trans ar))⟩
    | some cs =>
     rw[hd]at hres e2;obtain⟨rfl,hr⟩:=hres;have ef:gO b=(cs,3):=by unfold gO;rw[jn,e2]
     rw[ef];refine wk ?_;exact⟨V4,r4,(aw.trans ar),H.sx,rfl,hr⟩
  have hu:gL false b=none:=by unfold gL;rw[ae (λh=>he ⟨h.1,h.2.1,by simpa using(JY h.1 _ _).1 h.2.2⟩)]
  have q1:=hb2;by_cases q2:b.length%2=0;rotate_left
  ·refine wk ?_;exact⟨(),sB,hu,H⟩
  by_cases q3:at8 b 0=255;rotate_left
  ·refine wk ?_;exact⟨(),sB,hu,H⟩
  have q4:¬at8 b 1=254:=λh=>he ⟨q1,q2,q3,h⟩;refine wk ?_;exact⟨(),sB,hu,H⟩
 rintro _ w⟨hu2,H⟩;have ef:gO b=AH b:=by unfold gO;rw[jn,hu2]
 rw[ef];unfold AH;refine aM.go al ?_;refine wk ((abn H.data hs hl).use ?_);rintro v w⟨V3,r,aw,K,hres⟩;replace H:=H.bd K;cases hc:chars b with
 | some cs =>
  rw[hc]at hres;obtain⟨rfl,hr⟩:=hres;have hrl:=hr.len;cases cs with
  | nil =>rw[aK]at hrl;refine wk ?_;exact⟨V3,r,aw,H.sx,rfl,hr⟩
  | cons c cs =>
   rw[aq]at hrl;obtain⟨p0,c0⟩:=hr.aR (g:=λu:Nat=>iv (u:Int)) (λ_=>rfl) (show 0<(c::cs).length by simp);rw[List.getElem_cons_zero]at c0;dsimp only;have hcl:=uN ((GI.1 hc).1 c ah);obtain⟨z,hz⟩:∃z:Int,z=(c:Int):=⟨_,rfl⟩
   rw[<-hz]at c0;by_cases h:c=65279
   ·rw[ag (by rw[h];rfl)];refine wk ?_;have ht:=hr.tl (n:=1) (λ_=>rfl) (k:=1) ah;exact⟨V3,_,aw,H.sx,rfl,ht⟩
   rw[ae (λe=>h (by simpa using e))];refine wk ?_;exact⟨V3,r,aw,H.sx,rfl,hr⟩
 | none =>
  rw[hc]at hres;obtain rfl:=hres;dsimp only;refine wk ?_;replace H:=H.br 3 1;refine aP (S:=Nat×Sl) al [0,2,3,4,5,6,7,8,9,32,40,62,70,77,86] (λq=>[(11,iv q.1),(10,q.2.v)]) (λq w'=>q.1<=b.length/\Rel W V [.row q.2 3 1 (((b.take q.1).map UInt8.toNat).flatMap gI)] V3 w') (λq _=>b.length-q.1) (0,⟨none,0,0⟩) ?_;conv=>whnf
  refine⟨sB,⟨aa,H⟩,?_⟩;clear H;rintro⟨k,r⟩w⟨hk,H⟩;dsimp only at hk H |-;by_cases hlt:k<b.length
  ·obtain⟨p0,d0⟩:=(hs.up aw).aR (g:=bv) (λ_=>rfl) hlt;have gk:((b.take k).map UInt8.toNat).length=k:=by rw[aW,bg];omega
   have amT:=b[k].toNat_lt;refine H.wg ?_;intro _ w H;refine Rel.bF (f:=gI) (l:=((b.take k).map UInt8.toNat)) (x:=(b[k].toNat)) rfl (λ_=>rfl) (bc.1 rfl) H (by show(((b.take k).map UInt8.toNat).length+1)*8<=_;first|omega|(simp only[aW,gq];omega)) (by first|omega|(simp only[aW,gq];omega)) ?_;intro rn w H;refine wk ?_;refine⟨sB,(k+1,rn),sB,⟨by dsimp only;omega,?_⟩,by dsimp only;omega⟩;dsimp only;rw[bK hlt,dU];exact H.sx
  rw[bJ aa]at H;obtain⟨V4,ar,H,hr⟩:=Rel.aJ H;refine wk ?_;exact⟨V4,r,aw.trans ar,H.sx,rfl,hr⟩
theorem agr(K:au):((K++[2]).flatMap gI).set K.length (iv 1)=(K++[1]).flatMap gI:=by rw[cw,cw,List.set_append_right _ _ (by rw[kW (n:=1) (λ_=>rfl)];omega),kW (n:=1) (λ_=>rfl),show K.length-K.length*1=0 by omega];rfl
structure aat(W V:ad)(p:au×au)(v:aj)(w':ad):Prop where
 ex:∃(V':ad) (r r':Sl),Sub V V'/\Rel W V [] V' w'/\v=.tuple #[r.v,r'.v]/\aA gI V' r p.1/\aA gI V' r' p.2
def qP(l O K rest:au)(pend:Bool):Prop :=
 if pend=true then ∃O' K',O=O'++[10]/\K=K'++[2]/\lines l=(O'++(lines (13::rest)).1,K'++(lines (13::rest)).2)
 else lines l=(O++(lines rest).1,K++(lines rest).2)
theorem qP.plain{l O K rest:au}{pend:Bool}(h:qP l O K rest pend)(hp:pend=false\/∀k,rest≠10::k):lines l=(O++(lines rest).1,K++(lines rest).2):=by
 unfold qP at h;cases pend with
 | false=>simpa using h
 | true =>rw[ag rfl]at h;obtain⟨O',K',rfl,rfl,h⟩:=h;rw[Bh (hp.resolve_left ai)]at h;rw[h];simp
theorem afA(hV:Sub V W){s:Sl}{l:au}(hs:aA gI V s l)(hl:l.length<=1000000000):aB 102 [s.v] W (aat W V (lines l)):=by
 have H:=aG hV;have hlen:=hs.len;refine eV Tryz.func102 75 [0,2,3,4,5,6,10,29,39,47,62] ?_;refine wk ?_;replace H:=H.br 3 1;replace H:=H.br 3 1;refine aP (S:=Nat×Sl×Sl×au×au×Bool) al [0,2,3] (λq=>[(6,iv q.1),(4,q.2.1.v),(5,q.2.2.1.v)]) (λq w'=>q.1<=l.length/\q.2.2.2.1.length<=q.1/\q.2.2.2.2.1.length<=q.1/\(q.2.2.2.2.2=true↔∃h:q.1-1<l.length,0<q.1/\l[q.1-1]=13)/\qP l q.2.2.2.1 q.2.2.2.2.1 (l.drop q.1) q.2.2.2.2.2/\Rel W V [.row q.2.1 3 1 (q.2.2.2.1.flatMap gI),.row q.2.2.1 3 1 (q.2.2.2.2.1.flatMap gI)] V w') (λq _=>l.length-q.1) (0,⟨none,0,0⟩,⟨none,0,0⟩,[],[],false) ?_;conv=>whnf
 refine⟨sB,⟨aa,aQ _,aQ _,⟨λh=>by simp at h,λ⟨_,h,_⟩=>by dsimp only at h;omega⟩,by unfold qP;simp,H⟩,?_⟩;clear H;rintro⟨p,r4,r5,O,K,pend⟩w⟨hp,hO,hK,th,hA,H⟩;dsimp only at hp hO hK th hA H |-;by_cases hlt:p<l.length
 ·obtain⟨p0,c0⟩:=hs.aR (g:=λu:Nat=>iv (u:Int)) (λ_=>rfl) hlt;have eT:=dk hlt;obtain⟨c,kH⟩:∃c,c=l[p]:=⟨_,rfl⟩
  rw[<-kH]at c0 eT;have hpn:∀b:Bool,(b=true↔c=13)->(b=true↔∃h:p+1-1<l.length,0<p+1/\l[p+1-1]=13):=λb hb=>by rw[hb,kH];simp[hlt]
  by_cases j7:c=13
  ·subst j7;have hpl:=hA.plain (.inr (λk e=>by rw[eT]at e;injection e with e1;cases e1));rw[eT]at hpl;refine H.wg ?_;intro _ w H;refine Rel.eH (f:=gI) (l:=K) (x:=2) rfl (λ_=>rfl) (bc.1 rfl) H (by show(K.length+1)*8<=_;omega) aa ?_;intro rk w H;refine H.wg ?_;intro _ w H;refine Rel.bF (f:=gI) (l:=O) (x:=10) rfl (λ_=>rfl) (bc.1 rfl) H (by show(O.length+1)*8<=_;first|omega|(simp only[aW,gq];omega)) (by first|omega|(simp only[aW,gq];omega)) ?_;intro rn w H;refine wk ?_;refine⟨sB,(p+1,rn,rk,O++[10],K++[2],true),sB,⟨by dsimp only;omega,by dsimp only;rw[ak,bT];omega,by dsimp only;first|omega|(rw[ak,bT];omega),?_,?_,H.sx⟩,by dsimp only;omega⟩
   ·exact hpn true ah
   unfold qP;rw[ag rfl];exact⟨O,K,rfl,rfl,hpl⟩
  by_cases h10:c=10;rotate_left
  ·have hpl:=hA.plain (.inr (λk e=>by rw[eT]at e;injection e with e1;exact h10 e1));rw[eT,Eu h10 j7]at hpl;refine H.wg ?_;intro _ w H;refine Rel.bF (f:=gI) (l:=O) (x:=c) rfl (λ_=>rfl) (bc.1 rfl) H (by show(O.length+1)*8<=_;first|omega|(simp only[aW,gq];omega)) (by first|omega|(simp only[aW,gq];omega)) ?_;intro rn w H;refine wk ?_;refine⟨sB,(p+1,rn,r5,O++[c],K,false),sB,⟨by dsimp only;omega,by dsimp only;rw[ak,bT];omega,by dsimp only;first|omega|(rw[ak,bT];omega),?_,?_,H.sx⟩,by dsimp only;omega⟩
   ·exact hpn false (by simp[j7])
   unfold qP;rw[ae ah,hpl];simp
  subst h10;cases pend with
  | false =>
   have hpl:=hA.plain (.inl rfl);rw[eT,Et]at hpl;have hno:∀h:0<p,l[p-1]≠13:=λh e=>by have:=th.2 ⟨aa,h,e⟩;cases this
   by_cases Ba:0<p
   ·obtain⟨_,c1⟩:=hs.aR (g:=λu:Nat=>iv (u:Int)) (λ_=>rfl) (show p-1<l.length by omega);have hno:=hno Ba;obtain⟨y,hy⟩:∃y,y=l[p-1]:=⟨_,rfl⟩
    rw[<-hy]at c1 hno;rw[show p-1=((p:Int)-1).toNat by omega]at c1;refine H.wg ?_;intro _ w H;refine Rel.eH (f:=gI) (l:=K) (x:=0) rfl (λ_=>rfl) (bc.1 rfl) H (by show(K.length+1)*8<=_;omega) aa ?_;intro rk w H;refine H.wg ?_;intro _ w H;refine Rel.bF (f:=gI) (l:=O) (x:=10) rfl (λ_=>rfl) (bc.1 rfl) H (by show(O.length+1)*8<=_;first|omega|(simp only[aW,gq];omega)) (by first|omega|(simp only[aW,gq];omega)) ?_;intro rn w H;refine wk ?_;refine⟨sB,(p+1,rn,rk,O++[10],K++[0],false),sB,⟨by dsimp only;omega,by dsimp only;rw[ak,bT];omega,by dsimp only;first|omega|(rw[ak,bT];omega),?_,?_,H.sx⟩,by dsimp only;omega⟩
    ·exact hpn false ah
    unfold qP;rw[ae ah,hpl];simp
   refine H.wg ?_;intro _ w H;refine Rel.eH (f:=gI) (l:=K) (x:=0) rfl (λ_=>rfl) (bc.1 rfl) H (by show(K.length+1)*8<=_;omega) aa ?_;intro rk w H;refine H.wg ?_;intro _ w H;refine Rel.bF (f:=gI) (l:=O) (x:=10) rfl (λ_=>rfl) (bc.1 rfl) H (by show(O.length+1)*8<=_;first|omega|(simp only[aW,gq];omega)) (by first|omega|(simp only[aW,gq];omega)) ?_;intro rn w H;refine wk ?_;refine⟨sB,(p+1,rn,rk,O++[10],K++[0],false),sB,⟨by dsimp only;omega,by dsimp only;rw[ak,bT];omega,by dsimp only;first|omega|(rw[ak,bT];omega),?_,?_,H.sx⟩,by dsimp only;omega⟩
   ·exact hpn false ah
   unfold qP;rw[ae ah,hpl];simp
  | true =>obtain⟨_,Ba,adw⟩:=th.1 rfl;unfold qP at hA;rw[ag rfl]at hA;obtain⟨O',K',rfl,rfl,hA⟩:=hA;rw[eT,Es]at hA;obtain⟨_,c1⟩:=hs.aR (g:=λu:Nat=>iv (u:Int)) (λ_=>rfl) (show p-1<l.length by omega);rw[adw,show p-1=((p:Int)-1).toNat by omega]at c1;have Nf:=H.dW (i:=1) rfl (λ_=>rfl) ai;rw[ak,bT]at Nf hO hK;have hp5:Plain r5.a:=(H.cV (i:=1) rfl (λ_=>rfl) ai).cells.1 (by simp[gI]);refine wk ?_;refine Rel.zu (i:=1) H rfl K'.length aa rfl (by show bM r5.a+(((r5.len:Nat):Int)-1).toNat=_;omega) ?_;intro w H;simp only[fa,bH]at H;rw[agr]at H;refine wk ?_;refine⟨sB,(p+1,r4,r5,O'++[10],K'++[1],false),sB,⟨by dsimp only;omega,by dsimp only;rw[ak,bT];omega,by dsimp only;rw[ak,bT];omega,hpn false ah,?_,H.sx⟩,by dsimp only;omega⟩;unfold qP;rw[ae ah,hA];simp
 have eT:l.drop p=[]:=fc aa;have hpl:=hA.plain (.inr (λk e=>by rw[eT]at e;cases e));rw[eT,show lines []=([],[])from rfl,aZ,aZ]at hpl;rw[hpl];obtain⟨V4,ar,H,hr⟩:=Rel.aJ H;obtain⟨V5,aN,H,hr'⟩:=Rel.aJ H;refine wk ?_;exact⟨V5,r4,r5,ar.trans aN,H.sx,rfl,hr.up aN,hr'⟩
theorem Rel.aaO{w0 V0 w:ad}{own:cx}{s x:Sl}{xs ys:ab}(H:Rel w0 V0 (.row s 5 1 (xs.flatMap aI)::own) V w)(hx:aF V x ys)(hb:xs.length+ys.length<=1099511627776){ty:TypeId}{k:aj->ad->Prop}
  (hk:∀s' w',Rel w0 V0 (.row s' 5 1 ((xs++ys).flatMap aI)::own) V w'->k s'.v w'):bE Tryz.prog (Builtin.append_ #[22,22] ty #[s.v,x.v]) w k:=by
 have hl:=H.dW (i:=0) rfl (λ_=>rfl) ai;have hxl:=hx.len;refine Rel.uc al rfl rfl rfl rfl rfl ai H (i:=0) rfl (hx.up H.data).cells (by rw[kW (n:=1) (λ_=>rfl),hxl]) Hf (by rw[hl,hxl];simp;omega) (by rw[hl,hxl];omega) ?_;intro s' w' H' _;refine hk s' w' ?_;rw[cw];exact H'
end Go.Proofs.YtmoiobegbpkkbaaGreatDoor
