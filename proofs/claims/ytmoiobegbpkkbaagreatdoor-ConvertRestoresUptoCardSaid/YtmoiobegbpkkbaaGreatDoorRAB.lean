import Derived.Test.YtmoiobegbpkkbaaGreatDoorRAA
import Derived.RangeFuncLeaves
import Derived.RangeFuncRecord
import Derived.OrdersIn
import Derived.Laws.MakeOwn
import Derived.Lib.AppendStr
open Array renaming getD_eq_getD_getElem?->Gu,getElem?_eq_some_iff->jG,all_eq_true'->TN,length_toList->ud,getElem?_mapIdx->Lp
open Bool renaming and_eq_true->dM,or_eq_true->rf,not_eq_true'->A7,not_eq_true->Gz
open List renaming all_eq_true->bj,contains_iff_mem->pV,mem_cons->bB,getElem?_eq_some_iff->cW,append_assoc->bJ,cons_append->aL,nil_append->aA,mem_map->cG,length_append->aq,length_take->bb,length_drop->bd,take_left->pX,mem_append->cq,mem_filter->vS,size_toArray->vT,eq_nil_of_length_eq_zero->bL,nodup_append->vU,nodup_cons->Dy,getElem?_take->AU,mem_of_getElem?->fH,sublist_cons_self->Gh,pairwise_cons->lS,pairwise_iff_getElem->vK
open Nat renaming eq_of_beq_eq_true->pN,ne_of_beq_eq_false->Lj,le_refl->aK,le_trans->sJ,lt_of_lt_of_le->Tg,zero_add->dU,add_mul->uc
open Option renaming getD_some->k6,map_some->gA,bind_some->Gy,map_eq_some_iff->il
open Option.some renaming injEq->kv
namespace Go.Proofs.YtmoiobegbpkkbaaGreatDoor
open Go Go.RowKit
set_option maxRecDepth 100000
set_option maxHeartbeats 8000000
variable{n b sz:Nat}{env:Env}{a:Option Addr}{l xs:aD}{ops:List Oper}{o:Oper}{C:Cx}{w w':ae}{t e:TypeId}{c:Code}{ds:List Deferred}{F:Bool->Prop}{P:Program}{S:Type}{T:List TD}{p:Prop}
def nH(n:Nat)(d:Option Tmp)(v:ao)(env:Env)(k:Env->Prop):Prop :=
 match d with
 | none=>k env
 | some d=>(match Nat.ble (d+1) n with|true=>k ((d,v)::env)|false=>False)
theorem lR{d:Option Tmp}{v:ao}{k:Env->Prop}{a:Act}(h:nH n d v env k)(hs:Sat env a.tmps)(hn:a.tmps.size=n) :
  ∃aJ,Sat aJ (a.put d v).tmps/\(a.put d v).tmps.size=n/\(a.put d v).defers=a.defers/\k aJ:=by
 unfold nH at h;split at h
 ·exact⟨env,hs,hn,rfl,h⟩
 ·rename_i d;split at h
  ·rename_i hb;have hlt:d<a.tmps.size:=by rw[hn];exact Nat.le_of_ble_eq_true hb
   exact⟨_,hs.put hlt v,by simp[Act.put,hn],rfl,h⟩
  ·exact h.elim
def EK:List Oper->Nat->(Nat->Prop)->Prop
 | [],_,_=>False
 | o::_,0,k=>(match o.dst with|some s=>k s|none=>False)
 | _::r,j+1,k=>EK r j k
theorem Y9{l:List Oper}{j:Nat}{k:Nat->Prop}(h:EK l j k):∃o s,l[j]?=some o/\o.dst=some s/\k s:=by
 induction l generalizing j with
 | nil=>exact h.elim
 | cons o r ih =>
  cases j with
  | zero =>
   simp only[EK]at h;split at h
   ·rename_i s hs;exact⟨o,s,rfl,hs,h⟩
   ·exact h.elim
  | succ j=>obtain⟨o',s,h1,h2,h3⟩:=ih h;exact⟨o',s,h1,h2,h3⟩
def u9(ops:List Oper)(env:Env)(g:Option (Nat×Bool))(ex sk:Env->Prop):Prop :=
 match g with
 | none=>ex env
 | some (j,want)=>EK ops j λs=>tz env s λv=>(match v with
  | .bool b=>lz 0 b λb'=>(match b',want with
   | true,true=>ex ((s,.bool true)::env)
   | false,false=>ex ((s,.bool false)::env)
   | true,false=>sk ((s,.bool true)::env)
   | false,true=>sk ((s,.bool false)::env))
  | .tuple _=>sk env
  | _=>False)
theorem Aa{ex sk:Env->Prop}{tm:Array ao}(h:u9 ops env o.guard ex sk)(hs:Sat env tm) :
  (Region.wanted o (yielded ops.toArray tm)=true/\∃aJ,Sat aJ tm/\ex aJ)\/(Region.wanted o (yielded ops.toArray tm)=false/\∃aJ,Sat aJ tm/\sk aJ):=by
 unfold u9 at h;split at h
 ·rename_i hg;exact .inl ⟨by simp[Region.wanted,hg],env,hs,h⟩
 ·rename_i j want hg;replace h:=Y9 h;obtain⟨oj,s,ho,hd,h⟩:=h;replace h:=u7.1 h;obtain⟨v,hv,h⟩:=h;have CV:=hs s v hv;have hy:yielded ops.toArray tm j=match v with|.bool b=>some b|_=>none:=by
   have lI:ops.toArray[j]?=some oj:=by simpa using ho
   simp only[yielded,lI,Gy,hd,CV];cases v<;>rfl
  split at h
  ·rename_i b;replace h:=Ij.1 h;cases b<;>cases want<;>simp only at h
   ·exact .inl ⟨by simp[Region.wanted,hg,hy],_,hs.cons CV,h⟩
   ·exact .inr ⟨by simp[Region.wanted,hg,hy],_,hs.cons CV,h⟩
   ·exact .inr ⟨by simp[Region.wanted,hg,hy],_,hs.cons CV,h⟩
   ·exact .inl ⟨by simp[Region.wanted,hg,hy],_,hs.cons CV,h⟩
  ·exact .inr ⟨by simp[Region.wanted,hg,hy],env,hs,h⟩
  ·exact h.elim
def F2:Env->ae->(Env->ae->Prop)->(List PanicEntry->ae->Prop)->Prop:=λenv w K _=>K env w
def adv(C:Cx)(ops:List Oper)(o:Oper)(_:List Oper)(r:Env->ae->(Env->ae->Prop)->(List PanicEntry->ae->Prop)->Prop):Env->ae->(Env->ae->Prop)->(List PanicEntry->ae->Prop)->Prop :=
 λenv w K Z=>u9 ops env o.guard
   (λaJ=>mR C o.op o.type aJ w (λv w'=>nH C.n o.dst v aJ λdO=>r dO w' K Z) Z)
   (λaJ=>nH C.n o.dst undef aJ λdO=>r dO w K Z)
noncomputable def y8(C:Cx)(ops:List Oper)(l:List Oper):Env->ae->(Env->ae->Prop)->(List PanicEntry->ae->Prop)->Prop :=
 List.rec (motive:=λ_=>Env->ae->(Env->ae->Prop)->(List PanicEntry->ae->Prop)->Prop) F2 (adv C ops) l
theorem Wh{rest:List Oper}{K:Env->ae->Prop}{Z:List PanicEntry->ae->Prop}:y8 C ops (o::rest) env w K Z=u9 ops env o.guard
   (λaJ=>mR C o.op o.type aJ w (λv w'=>nH C.n o.dst v aJ λdO=>y8 C ops rest dO w' K Z) Z)
   (λaJ=>nH C.n o.dst undef aJ λdO=>y8 C ops rest dO w K Z):=rfl
theorem Nd{C:Cx}(hT:bK C.P C.T){ops:List Oper}{Q:Exit->Act->ae->Prop}{K:Env->ae->Prop}{Z:List PanicEntry->ae->Prop}{ds:List Deferred}
  (hQ:∀env (a:Act) w,Sat env a.tmps->a.tmps.size=C.n->a.defers=ds->K env w->Q .normal a w) (hZ:∀(a:Act) w ch,a.tmps.size=C.n->a.defers=ds->Z ch w->Q (.panic ch) a w) :
  ∀ {l:List Oper} {env:Env} {a:Act} {w:ae},Sat env a.tmps->a.tmps.size=C.n->a.defers=ds->y8 C ops l env w K Z->wpListIn (Fr C.r) 0 C.P ops.toArray Q l a w
 | [],env,a,w,hs,hn,hd,h=>hQ env a w hs hn hd h
 | o::rest,env,a,w,hs,hn,hd,h=>by
  unfold wpListIn;rw[Wh]at h;rcases Aa h hs with⟨hw,aJ,hs',h'⟩|⟨hw,aJ,hs',h'⟩
  ·rw[if_pos hw];refine zb hT hs' h' (λv w' hk=>?_) (λch w' hz=>hZ a w' ch hn hd hz);obtain⟨dO,h1,h2,h3,h4⟩:=lR hk hs' hn;exact Nd hT hQ hZ h1 h2 (h3.trans hd) h4
  ·rw[if_neg (by simp[hw])];refine⟨λ_ _=>trivial,?_⟩;obtain⟨dO,h1,h2,h3,h4⟩:=lR h' hs' hn;exact Nd hT hQ hZ h1 h2 (h3.trans hd) h4
def nG(env:Env):au->(Env->Prop)->Prop
 | [],k=>k []
 | t::ts,k=>match get? env t with
  | some v=>nG env ts λe=>k ((t,v)::e)
  | none=>nG env ts k
theorem EZ{s:Nat}{v:ao}{t:Nat}{u:ao}(h:get? ((s,v)::env) t=some u):(s=t/\v=u)\/get? env t=some u:=by
 simp only[get?]at h;cases e:Nat.beq s t with
 | true=>simp only[e]at h;cases h;exact .inl ⟨pN e,rfl⟩
 | false=>simp only[e]at h;exact .inr h
theorem sI{env:Env}:∀ {ts:au} {k:Env->Prop},nG env ts k->∃e',(∀t v,get? e' t=some v->get? env t=some v)/\k e'
 | [],k,h=>⟨[],λt v h=>by simp[get?]at h,h⟩
 | t::ts,k,h=>by
  simp only[nG]at h;split at h
  ·rename_i v hv;obtain⟨e',h1,h2⟩:=sI h;refine⟨_,λs u hu=>?_,h2⟩;rcases EZ hu with⟨rfl,rfl⟩|hu
   ·exact hv
   ·exact h1 s u hu
  ·exact sI h
abbrev ic:=Exit->Env->List Deferred->ae->Prop
structure aP(C:Cx)(c:Code)(env:Env)(ds:List Deferred)(w:ae)(Q:ic):Prop where
 out:∀a:Act,Sat env a.tmps->a.tmps.size=C.n->a.defers=ds ->
  c.wpIn (Fr C.r) 0 C.P (λe a' w'=>a'.tmps.size=C.n/\∃aJ,Sat aJ a'.tmps/\Q e aJ a'.defers w') a w
theorem aP.mono{Q Q':ic}(h:aP C c env ds w Q)(hq:∀e env ds w,Q e env ds w->Q' e env ds w):aP C c env ds w Q' :=
 ⟨λa hs hn hd=>wpIn_mono (h.out a hs hn hd) λ_ _ _ ⟨h1,aJ,h2,h3⟩=>⟨h1,aJ,h2,hq _ _ _ _ h3⟩⟩
abbrev Den:=Env->List Deferred->ae->ic->Prop
def NQ:Den:=λenv ds w Q=>Q .normal env ds w
def X7(_ _:Code)(x y:Den):Den:=λenv ds w Q=>x env ds w λe aJ ds' w'=>(match e with
  | .normal=>y aJ ds' w' Q
  | e=>Q e aJ ds' w')
def X5(c:Operand)(_ _:Code)(x y:Den):Den:=λenv ds w Q=>cA env c λv=>(match v with
  | .bool b=>lz 0 b λb'=>(match b' with
   | true=>x env ds w Q
   | false=>y env ds w Q)
  | _=>False)
def X4(id:Nat)(_:Code)(c:Den):Den:=λenv ds w Q=>c env ds w λe aJ ds' w'=>(match e with
  | .exit x9=>(match Nat.beq x9 id with
   | true=>Q .normal aJ ds' w'
   | false=>Q (.exit x9) aJ ds' w')
  | e=>Q e aJ ds' w')
noncomputable def X6(C:Cx)(id:Nat)(ops:Array Oper)(dr:Bool):Den:=λenv ds w Q=>(match dr with
  | false=>y8 C ops.toList ops.toList env w (λaJ w'=>nG aJ C.live λe'=>Q .normal e' ds w') (λch w'=>Q (.panic ch) [] ds w')
  | true=>aP C (.region id ops true) env ds w Q)
noncomputable def ia(C:Cx)(c:Code):Den :=
 Code.rec (motive:=λ_=>Den) (skip:=NQ) (seq:=X7) (cond:=X5) (block:=X4) (region:=X6 C) (label:=λ_=>NQ)
  (exit:=λid env ds w Q=>Q (.exit id) env ds w) (ret:=λenv ds w Q=>Q .ret env ds w)
  (loop:=λc _=>aP C (.loop c)) (rangeFunc:=λf ps x y _ _=>aP C (.rangeFunc f ps x y)) (scope:=λc _=>aP C (.scope c)) (goto:=λl=>aP C (.goto l)) (refuse:=λy=>aP C (.refuse y)) c
section
variable{C:Cx}{env:Env}{ds:List Deferred}{w:ae}{Q:ic}
theorem aim{x y:Code}:ia C (.seq x y) env ds w Q=ia C x env ds w λe aJ ds' w'=>(match e with
  | .normal=>ia C y aJ ds' w' Q
  | e=>Q e aJ ds' w'):=rfl
theorem ail{c:Operand}{x y:Code}:ia C (.cond c x y) env ds w Q=cA env c λv=>(match v with
  | .bool b=>lz 0 b λb'=>(match b' with
   | true=>ia C x env ds w Q
   | false=>ia C y env ds w Q)
  | _=>False):=rfl
theorem aik{id:Nat}:ia C (.block id c) env ds w Q=ia C c env ds w λe aJ ds' w'=>(match e with
  | .exit x9=>(match Nat.beq x9 id with
   | true=>Q .normal aJ ds' w'
   | false=>Q (.exit x9) aJ ds' w')
  | e=>Q e aJ ds' w'):=rfl
end
theorem sY(hT:bK C.P C.T):∀ {c:Code} {env:Env} {ds:List Deferred} {w:ae} {Q:ic},ia C c env ds w Q->aP C c env ds w Q:=by
 intro c;induction c with
 | skip=>exact λh=>⟨λa hs hn hd=>wpIn_skip ⟨hn,_,hs,hd▸h⟩⟩
 | label l=>exact λh=>⟨λa hs hn hd=>wpIn_label ⟨hn,_,hs,hd▸h⟩⟩
 | exit id=>exact λh=>⟨λa hs hn hd=>wpIn_exit ⟨hn,_,hs,hd▸h⟩⟩
 | ret=>exact λh=>⟨λa hs hn hd=>wpIn_ret ⟨hn,_,hs,hd▸h⟩⟩
 | seq x y FC ihy =>
  intro env ds w Q h;rw[aim]at h;refine⟨λa hs hn hd=>?_⟩;refine wpIn_seq (wpIn_mono ((FC h).out a hs hn hd) λe a' w' ⟨h1,aJ,h2,h3⟩=>?_);cases e with
  | normal=>exact(ihy h3).out a' h2 h1 rfl
  | _=>exact⟨h1,aJ,h2,h3⟩
 | cond c x y FC ihy =>
  intro env ds w Q h;rw[ail]at h;refine⟨λa hs hn hd=>?_⟩;replace h:=dm h hs;split at h
  ·rename_i b hb;replace h:=Ij.1 h;cases b with
   | true=>exact wpIn_cond_true hb ((FC h).out a hs hn hd)
   | false=>exact wpIn_cond_false hb ((ihy h).out a hs hn hd)
  ·exact h.elim
 | block id c ih =>
  intro env ds w Q h;rw[aik]at h;refine⟨λa hs hn hd=>?_⟩;refine wpIn_block (wpIn_mono ((ih h).out a hs hn hd) λe a' w' ⟨h1,aJ,h2,h3⟩=>?_);cases e with
  | exit x9 =>
   simp only at h3;simp only[Exit.inBlock];cases e:Nat.beq x9 id with
   | true=>rw[if_pos (pN e)];simp only[e]at h3;exact⟨h1,aJ,h2,h3⟩
   | false=>rw[if_neg (Lj e)];simp only[e]at h3;exact⟨h1,aJ,h2,h3⟩
  | _=>exact⟨h1,aJ,h2,h3⟩
 | region id ops dr =>
  intro env ds w Q h;cases dr with
  | true=>exact h
  | false =>
   refine⟨λa hs hn hd=>?_⟩;refine wpIn_region_list ?_;have:=Nd (ops:=ops.toList) (ds:=ds) hT (Q:=λe a' w'=>a'.tmps.size=C.n/\∃aJ,Sat aJ a'.tmps/\Q e aJ a'.defers w') (λaJ a' w' h1 h2 h3 h4=>?_) (λa' w' ch h1 h2 h3=>?_) hs hn hd h
   ·simpa using this
   ·obtain⟨e',h5,h6⟩:=sI h4;exact⟨h2,e',λt v ht=>h1 t v (h5 t v ht),h3▸h6⟩
   ·exact⟨h1,[],Sat.nil _,h2▸h3⟩
 | loop c ih=>exact λh=>h
 | rangeFunc f ps x y FC ihy=>exact λh=>h
 | scope c ih=>exact λh=>h
 | goto l=>exact λh=>h
 | refuse why=>exact λh=>h
def p8(big:Env):Env->Prop
 | []=>True
 | (t,v)::r=>get? big t=some v/\p8 big r
theorem sT{big:Env}:∀ {e:Env},p8 big e->∀t v,get? e t=some v->get? big t=some v
 | [],_,t,v,h=>by simp[get?]at h
 | (s,u)::r,⟨h1,h2⟩,t,v,h=>by
  rcases EZ h with⟨rfl,rfl⟩|h
  ·exact h1
  ·exact sT h2 t v h
theorem Wn{F:Fence}{Q:Exit->Act->ae->Prop}{a:Act}(I:S->Act->ae->Prop)(μ:S->ae->Nat)(s:S)(abD:I s a w)
  (round:∀s a w,I s a w->c.wpIn F n P (Exit.then (λa' w'=>∃s',I s' a' w'/\μ s' w'<μ s w) Q) a w):(Code.loop c).wpIn F n P Q a w:=by
 intro b k cs hro hb hr
 have key:∀j s a w,μ s w=j->I s a w ->
   ∃e a' w',Q e a' w'/\ArrivesIn (Machine.fenced P F) P (lone (b.atR a (.code c::.inLoop c::k)) cs w) b k cs e a' w':=by
  intro j;induction j using Nat.strongRecOn with
  | _ j ih =>
   intro s a w hn hI;obtain⟨e,o8,oS,hq,harr⟩:=round s a w hI b (.inLoop c::k) cs hro hb hr;cases e with
   | normal =>
    obtain⟨UT,aaq,hlt⟩:=hq;obtain⟨ZH,XF,aiN,abo,aax⟩:=ih (μ UT oS) (hn▸hlt) UT o8 oS rfl aaq;exact⟨ZH,XF,aiN,abo,.of_steps (StepsIn.trans harr (.one (fenced_calm hb hr rfl) stepR_inLoop)) aax⟩
   | exit id=>exact⟨_,o8,oS,hq,.pass (x:=.inLoop c) rfl (λ_ _=>.inl ai) harr⟩
   | goto l=>exact⟨_,o8,oS,hq,.pass (x:=.inLoop c) rfl (λ_ _=>.inl ai) harr⟩
   | ret=>exact⟨_,o8,oS,hq,.pass (x:=.inLoop c) rfl (λ_ _=>.inl ai) harr⟩
   | panic ch=>exact⟨_,o8,oS,hq,.pass (x:=.inLoop c) rfl (λ_ _=>.inl ai) harr⟩
   | outgrown=>exact⟨_,o8,oS,hq,.pass (x:=.inLoop c) rfl (λ_ _=>.inl ai) harr⟩
 obtain⟨e,a',w',hq,harr⟩:=key _ s a w rfl abD;exact⟨e,a',w',hq,.of_steps (.one (fenced_calm hb hr rfl) stepR_loop) harr⟩
theorem aY(hT:bK C.P C.T){c:Code}{env:Env}{ds:List Deferred}{w:ae}{Q:ic}{S:Type}(ks:au)(vars:S->Env)
  (I:S->ae->Prop) (μ:S->ae->Nat) (s0:S)
  (h:nG env ks λjC=>p8 env (vars s0)/\I s0 w/\∀s w,I s w->ia C c (vars s++jC) ds w λe aJ ds' w'=>(match e with
   | .normal=>ds'=ds/\p8 aJ jC/\∃s',p8 aJ (vars s')/\I s' w'/\μ s' w'<μ s w
   | e=>Q e aJ ds' w')):aP C (.loop c) env ds w Q:=by
 obtain⟨jC,hk,h0,hI,hr⟩:=sI h;have app:∀ {e1 e2:Env} {t:Nat} {v:ao},get? (e1++e2) t=some v->get? e1 t=some v\/get? e2 t=some v:=by
  intro e1 e2 t v h;induction e1 with
  | nil=>exact .inr h
  | cons p r ih =>
   obtain⟨s,u⟩:=p;simp only[aL,get?]at h |-;cases e:Nat.beq s t with
   | true=>simp only[e]at h |-;exact .inl h
   | false=>simp only[e]at h |-;exact ih h
 refine⟨λa hs hn hd=>?_⟩
 refine Wn (λs a w=>a.tmps.size=C.n/\a.defers=ds/\Sat (vars s++jC) a.tmps/\I s w) μ s0
  ⟨hn,hd,λt v h=>(app h).elim (λh=>hs t v (sT h0 t v h)) (λh=>hs t v (hk t v h)),hI⟩ ?_
 rintro s a w⟨hn,hd,hs,hI⟩;refine wpIn_mono ((sY hT (hr s w hI)).out a hs hn hd) λe a' w' ⟨h1,aJ,h2,h3⟩=>?_;cases e with
 | normal =>
  obtain⟨h4,h8,s',h5,h6,h7⟩:=h3;exact⟨s',⟨h1,h4,λt v h=>(app h).elim (λh=>h2 t v (sT h5 t v h)) (λh=>h2 t v (sT h8 t v h)),h6⟩,h7⟩
 | _=>exact⟨h1,aJ,h2,h3⟩
def Md(C:Cx)(x:ResultVar)(env:Env)(w:ae)(k:ao->Prop):Prop :=
 match x with
 | .tmp t=>tz env t k
 | .cell t ty=>tz env t λv=>vA C ty v w λu _=>k u
def Me(C:Cx)(env:Env)(w:ae):List ResultVar->(aD->Prop)->Prop
 | [],k=>k []
 | x::xs,k=>Md C x env w λv=>Me C env w xs λvs=>k (v::vs)
def sP(C:Cx)(xs:List ResultVar)(env:Env)(w:ae)(k:ao->Prop):Prop :=
 match xs with
 | [x]=>Md C x env w k
 | xs=>Me C env w xs λvs=>k (.tuple vs.toArray)
def DN(tm:Array ao)(x:ResultVar):Sem ao:=match x with|.tmp t=>pure (tm.getD t undef)|.cell a t=>do loadVar t (<-asAddr (tm.getD a undef))
theorem afK(fn:Func)(tm:Array ao):results fn tm=(do let vs <-fn.results.mapM (DN tm);pure (if h:vs.size=1 then vs[0]else .tuple vs)):=rfl
theorem Ud(hT:bK C.P C.T){x:ResultVar}{env:Env}{w:ae}{k:ao->Prop}{tm:Array ao}(hs:Sat env tm)(h:Md C x env w k) :
  ∃v,(DN tm x).run C.P w=.ok v w/\k v:=by
 cases x with
 | tmp t =>
  obtain⟨v,hv,hk⟩:=u7.1 h;have:=hs t v hv;exact⟨v,by simp[DN,Gu,this],hk⟩
 | cell t ty =>
  obtain⟨v,hv,hk⟩:=u7.1 h;have:=hs t v hv;obtain⟨a,u,rfl,hr,hk⟩:=R0 hT hk;exact⟨u,by simp[DN,Gu,this,asAddr,hr],hk⟩
theorem Ue{C:Cx}(hT:bK C.P C.T){env:Env}{w:ae}{tm:Array ao}(hs:Sat env tm):∀ {xs:List ResultVar} {k:aD->Prop},Me C env w xs k ->
  ∃vs,(xs.mapM (DN tm)).run C.P w=.ok vs w/\vs.length=xs.length/\k vs
 | [],k,h=>⟨[],ai,rfl,h⟩
 | x::xs,k,h=>by
  obtain⟨v,hv,h⟩:=Ud hT hs h;obtain⟨vs,Kl,hl,hk⟩:=Ue hT hs h;refine⟨v::vs,?_,by simp[hl],hk⟩;rw[List.mapM_cons];simp[hv,Kl]
theorem GM(hT:bK C.P C.T){fn:Func}{env:Env}{w:ae}{tm:Array ao}(hs:Sat env tm){k:ao->Prop}(h:sP C fn.results.toList env w k) :
  ∃v,(results fn tm).run C.P w=.ok v w/\k v:=by
 rw[afK,<-Array.toArray_toList (xs:=fn.results),Array.mapM_eq_mapM_toList];unfold sP at h;split at h
 ·rename_i x hx;obtain⟨v,hv,hk⟩:=Ud hT hs h;refine⟨v,?_,hk⟩;rw[hx];simp[hv]
 ·rename_i hne;obtain⟨vs,Kl,hl,hk⟩:=Ue hT hs h;refine⟨_,?_,hk⟩;simp only[Sem.run_bind,Sem.run_map,Kl,Result.andThen_ok,Sem.run_pure];rw[dif_neg];intro h1;have:fn.results.toList.length=1:=by simpa [hl]using h1
  obtain⟨x,hx⟩:=List.length_eq_one_iff.1 this;exact hne x hx
def me:Nat->aD->Env
 | _,[]=>[]
 | i,v::r=>(i,v)::me (i+1) r
theorem Eo{m:Nat}:Sat (me 0 l) (l.toArray++Array.replicate m undef):=by
 have key:∀(l pre:aD) t v,get? (me pre.length l) t=some v->(pre++l)[t]?=some v:=by
  intro l;induction l with
  | nil=>intro pre t v h;simp[me,get?]at h
  | cons u r ih =>
   intro pre t v h;rcases EZ h with⟨rfl,rfl⟩|h
   ·simp
   ·have:=ih (pre++[u]) t v (by simpa using h);simpa using this
 intro t v h;have:=key l [] t v h;simp only[aA]at this;have hlt:t<l.length:=(cW.1 this).1;rw[Array.getElem?_append_left (by simpa using hlt)];simpa using this
def tZ:List Deferred->ae->(ae->Prop)->Prop
 | [],w,k=>k w
 | d::ds,w,k=>match d.target with
  | .collected D=>w.heap[D]?=some (.deferred (some []))/\∀w',Tw D w w'->tZ ds w' k
  | _=>False
theorem Vs{D:Nat}{o o':Obj}(h:w.heap[D]?=some o)(ho:∀c t f,o≠.cells c t f):Tw D w (w.putObj D o'):=by
 refine⟨rfl,rfl,rfl,by simp[World.putObj],λk hk=>World.putObj_heap_other aa,λk c t f hk=>?_⟩;have hne:k≠D:=by
  intro e;subst e;rw[h]at hk;cases hk;exact ho c t f rfl
 rw[World.putObj_heap_other hne];exact hk
theorem Dh{P:Program}{fn:Func}{tm:Array ao}{R:Ending->ae->Prop}{u:FrameMode}(hu:u≠.run):∀ {ds:List Deferred} {w:ae} {k:ae->Prop},tZ ds w k->(∀w',k w'->LeavesInM (Fr none) 0 P fn tm R [] u w')->LeavesInM (Fr none) 0 P fn tm R ds u w
 | [],w,k,h,hk=>hk w h
 | d::ds,w,k,h,hk=>by
  unfold tZ at h;split at h
  ·rename_i D hD;obtain⟨h1,h2⟩:=h;refine⟨hu,.inl ⟨D,_,hD,run_takeDeferred h1,?_⟩⟩;exact Dh hu (h2 _ (Vs h1 (λ_ _ _=>nofun))) hk
  ·exact h.elim
def IV(C:Cx)(rs:List ResultVar)(K:ao->ae->Prop)(Z:List PanicEntry->ae->Prop):ic:=λe env ds w =>
 match e with
 | .normal=>tZ ds w λw'=>sP C rs env w' λv=>K v w'
 | .ret=>tZ ds w λw'=>sP C rs env w' λv=>K v w'
 | .panic ch=>tZ ds w λw'=>Z ch w'
 | _=>False
theorem Ya(hT:bK P T){f:FuncId}{fn:Func}{c:Code}{args:aD}{w:ae}{K:ao->ae->Prop}{Z:List PanicEntry->ae->Prop}
  (hf:P.funcs[f]?=some fn) (hb:fn.body=some c) (hname:(fn.name == "runtime.NumGoroutine")=false) (n:Nat) (hn:fn.ntmps=n) (ha:args.length<=n) (live:au)
  (h:ia ⟨P,T,n,live,none⟩ c (me 0 args) [] w (IV ⟨P,T,n,live,none⟩ fn.results.toList K Z)):cw P f args.toArray w K Z:=by
 refine⟨.inl ⟨xe hf (by simp[hb]) hname,(BP (r:=none) (n:=0)).1 ?_⟩⟩;refine callsIn_of_wp_marks hf hb trivial ?_;have hs:Sat (me 0 args) (args.toArray++Array.replicate (fn.ntmps-args.toArray.size) undef):=Eo;refine wpIn_mono ((sY hT h).out { tmps:=args.toArray++Array.replicate (fn.ntmps-args.toArray.size) undef,defers:=[] } hs (by simp;omega) rfl) ?_;rintro e a w'⟨h1,aJ,h2,h3⟩;have fin:∀ {ds w},(tZ ds w λw'=>sP ⟨P,T,n,live,none⟩ fn.results.toList aJ w' λv=>K v w')->LeavesInM (Fr none) 0 P fn a.tmps (λe w'=>match e with|.returned v=>K v w'|.panicked ch=>Z ch w'|.outgrown=>False) ds .returning w:=by
  intro ds w h;refine Dh ai h λw' h=>?_;obtain⟨v,hr,hk⟩:=GM (C:=⟨P,T,n,live,none⟩) hT h2 h;exact⟨v,hr,hk⟩
 cases e with
 | normal=>exact fin h3
 | ret=>exact fin h3
 | panic ch=>exact Dh ai h3 λw' h=>h
 | exit id=>exact h3.elim
 | goto l=>exact h3.elim
 | outgrown=>exact h3.elim
theorem ahl{T:List TD}{t:TypeId}{k:TD->Prop}{d:TD}(hd:T[t]?=some d)(h:k d):eb T t k:=MG.2 ⟨d,hd,h⟩
def cy(rd:Bool)(R:ae->(ao->ae->Prop)->Prop):Prop :=
 ∀w k,R w k->∃v,k v w/\∀w1 (k1:ao->ae->Prop),(rd=true->Ext w w1)->k1 v w1->R w1 k1
theorem aae{env:Env}{t:Nat}{R:ao->ae->(ao->ae->Prop)->Prop}{rd:Bool}(h:∀v,cy rd (R v)):cy rd λw k=>tz env t λv=>R v w k:=by
 intro w k hk;obtain⟨v,hv,hk⟩:=u7.1 hk;obtain⟨u,h1,h2⟩:=h v w k hk;exact⟨u,h1,λw1 k1 he dW=>u7.2 ⟨v,hv,h2 w1 k1 he dW⟩⟩
theorem jt{env:Env}{x:Operand}{R:ao->ae->(ao->ae->Prop)->Prop}{rd:Bool}(h:∀v,cy rd (R v)):cy rd λw k=>cA env x λv=>R v w k:=by
 cases x with
 | tmp t=>exact aae h
 | const v=>exact h v
 | global g=>exact h _
 | func f=>exact h _
theorem zc{env:Env}{rd:Bool}:∀ {xs:List Operand} {R:aD->ae->(ao->ae->Prop)->Prop},(∀v,cy rd (R v))->cy rd λw k=>iW env xs λv=>R v w k
 | [],_,h=>h []
 | _::xs,R,h=>jt (R:=λv w k=>iW env xs λvs=>R (v::vs) w k) λv=>zc (R:=λvs=>R (v::vs)) λvs=>h (v::vs)
theorem SU{env:Env}{rd:Bool}:∀ {xs:List (Nat×Operand)} {R:List (Nat×ao)->ae->(ao->ae->Prop)->Prop},(∀v,cy rd (R v))->cy rd λw k=>AM env xs λv=>R v w k
 | [],_,h=>h []
 | (i,_)::xs,R,h=>jt (R:=λv w k=>AM env xs λvs=>R ((i,v)::vs) w k) λv=>SU (R:=λvs=>R ((i,v)::vs)) λvs=>h ((i,v)::vs)
theorem hH{T:List TD}{t:TypeId}{rd:Bool}{R:TD->ae->(ao->ae->Prop)->Prop}(h:∀d,T[t]?=some d->cy rd (R d)):cy rd λw k=>eb T t λd=>R d w k:=by
 intro w k hk;obtain⟨d,hd,hk⟩:=MG.1 hk;obtain⟨u,h1,h2⟩:=h d hd w k hk;exact⟨u,h1,λw1 k1 he dW=>ahl hd (h2 w1 k1 he dW)⟩
theorem eg{rd:Bool}(v:ao):cy rd λw k=>k v w:=λ_ _ h=>⟨v,h,λ_ _ _ h=>h⟩
theorem ed{rd:Bool}:cy rd λ_ _=>False:=λ_ _ h=>h.elim
theorem ke{rd:Bool}{p:Prop}{R:ae->(ao->ae->Prop)->Prop}(h:cy rd R):cy rd λw k=>p/\R w k:=by
 intro w k ⟨hp,hk⟩;obtain⟨v,h1,h2⟩:=h w k hk;exact⟨v,h1,λw1 k1 he dW=>⟨hp,h2 w1 k1 he dW⟩⟩
theorem xj{rd:Bool}{kd:IntKind}{x:Int}:cy rd λw k=>pd kd x λv=>k v w:=by
 unfold pd;cases kd<;>first|exact eg _|exact ke (eg _)
theorem Hn{rd:Bool}{R S:ae->(ao->ae->Prop)->Prop}(h1:cy rd R)(h2:cy rd S):cy rd λw k=>R w k\/S w k:=by
 rintro w k(h|h)
 ·obtain⟨v,a,b⟩:=h1 w k h;exact⟨v,a,λw1 k1 he hk=>.inl (b w1 k1 he hk)⟩
 ·obtain⟨v,a,b⟩:=h2 w k h;exact⟨v,a,λw1 k1 he hk=>.inr (b w1 k1 he hk)⟩
theorem abQ{rd:Bool}{op:BinOp}{kd:IntKind}{x y:Int}:cy rd λw k=>qM op kd x y λv=>k v w:=by
 unfold qM;cases op<;>first|exact xj|exact eg _|exact ke (eg _)|exact ke xj|exact Hn (ke xj) (ke xj)|exact Hn (ke (eg _)) (ke (eg _))
theorem ag1{rd:Bool}{op:BinOp}{x y:ad}:cy rd λw k=>G7 op x y λv=>k v w:=by
 unfold G7;cases op<;>first|exact eg _|exact ke (eg _)|exact ed
theorem Pm{rd neg:Bool}{u:oY}{a b:ao}:cy rd λw k=>zP neg u a b λv=>k v w:=by
 unfold zP;split<;>first|exact eg _|exact ed
theorem Dp{rd:Bool}{l:aD}{i:Nat}{R:ao->ae->(ao->ae->Prop)->Prop}(h:∀v,cy rd (R v)):cy rd λw k=>oy l i λv=>R v w k:=by
 intro w k hk;obtain⟨v,hv,hk⟩:=Dn.1 hk;obtain⟨u,h1,h2⟩:=h v w k hk;exact⟨u,h1,λw1 k1 he dW=>Dn.2 ⟨v,hv,h2 w1 k1 he dW⟩⟩
theorem Ur{rd:Bool}{u:oY}{x y:ao}{R:(p:Prop)->Decidable p->ae->(ao->ae->Prop)->Prop}(h:∀p i,cy rd (R p i)):cy rd λw k=>yP u x y λp i=>R p i w k:=by
 unfold yP;split
 ·split
  ·exact h _ _
  ·exact ed
 ·exact h _ _
 ·exact h _ _
 ·exact ed
theorem IL{C:Cx}{rd:Bool}{xs ys:aD}:∀ {fs:List (Nat×TypeId)} {R:(p:Prop)->Decidable p->ae->(ao->ae->Prop)->Prop},(∀p i,cy rd (R p i))->cy rd λw k=>xf C fs xs ys λp i=>R p i w k
 | [],_,h=>h _ _
 | [_],_,h=>hH λ_ _=>Dp λ_=>Dp λ_=>Ur h
 | _::g::r,R,h=>hH λ_ _=>Dp λ_=>Dp λ_=>Ur (R:=λp i w k=>xf C (g::r) xs ys λq j=>R (p/\q) (@instDecidableAnd p q i j) w k) λ_ _=>IL (fs:=g::r) λ_ _=>h _ _
theorem XQ{C:Cx}{rd:Bool}{op:BinOp}{t:TypeId}{a b:ao}(hq:∀n e,js C.T t≠.array n e):cy rd λw k=>BK C op t a b w k:=by
 unfold BK;split
 ·split
  ·exact ke xj
  ·exact ke (eg _)
  ·split<;>first|exact abQ|exact ed
 ·exact ag1
 ·refine hH λd hd=>?_;split
  ·exact IL λp i=>eg _
  ·exact IL λp i=>eg _
  ·rename_i n e hu;exact absurd (by simp[js,hd,hu]) (hq n e)
  ·exact ed
 ·split
  ·exact hH λd _=>Pm
  ·exact hH λd _=>Pm
  ·exact ed
theorem Ye{rd:Bool}{v:ao}{R:aD->ae->(ao->ae->Prop)->Prop}(h:∀l,cy rd (R l)):cy rd λw k=>uS v λl=>R l w k:=by
 unfold uS;split<;>exact h _
theorem Mc{rd:Bool}:∀ {c:aD} {o:Nat} {l:aD} {R:aD->ae->(ao->ae->Prop)->Prop},(∀l,cy rd (R l))->cy rd λw k=>fS c o l λr=>R r w k
 | c,0,[],R,h=>by cases c<;>exact h _
 | u::c,0,v::l,R,h=>Mc (c:=c) (o:=0) (l:=l) (R:=λr=>R (v::r)) λr=>h _
 | u::c,o+1,l,R,h=>by
  have:=Mc (rd:=rd) (c:=c) (o:=o) (l:=l) (R:=λr=>R (u::r)) λr=>h _;cases l<;>exact this
 | [],0,v::l,R,h=>ed
 | [],o+1,l,R,h=>by cases l<;>exact ed
theorem PA{C:Cx}{rd:Bool}{fs:List (Nat×TypeId)}:∀ {ps:List (Nat×ao)} {c:aD} {R:aD->ae->(ao->ae->Prop)->Prop},(∀l,cy rd (R l))->cy rd λw k=>xh C fs ps c λr=>R r w k
 | [],c,R,h=>h _
 | (i,v)::r,c,R,h=>by
  simp only[xh];cases fs[i]? with
  | none=>exact ed
  | some f =>
   refine hH λd _=>Ye (R:=λl w k=>match Nat.beq l.length d.size with
    | true=>fS c f.1 l λc'=>xh C fs r c' λr=>R r w k
    | false=>False) λl=>?_
   cases Nat.beq l.length d.size with
   | true=>exact Mc λc'=>PA h
   | false=>exact ed
theorem NA{C:Cx}{rd:Bool}:∀ {fs:List (Nat×TypeId)} {R:ae->(ao->ae->Prop)->Prop},cy rd R->cy rd λw k=>Ei C fs (R w k)
 | [],_,h=>h
 | _::_,_,h=>hH λ_ _=>NA h
theorem ti{rd:Bool}{x:Option ao}{d m:Nat}{R:Nat->ae->(ao->ae->Prop)->Prop}(h:∀n,cy rd (R n)):cy rd λw k=>lx x d m λn=>R n w k:=by
 unfold lx;split
 ·exact h _
 ·exact ke (h _)
 ·exact ed
theorem SR{rd:Bool}{d:TD}{off:Nat}{l:aD}:cy rd λw k=>AL d off l λv=>k v w:=by
 unfold AL;split
 ·exact eg _
 ·split
  ·exact eg _
  ·exact ed
theorem RZ{b:Nat}:∀ {n o:Nat} {R:aD->ae->(ao->ae->Prop)->Prop},(∀l,cy true (R l))->cy true λw k=>FN w b n o λl=>R l w k
 | 0,o,R,h=>h _
 | n+1,o,R,h=>by
  rintro w k⟨v,hv,hk⟩;obtain⟨u,h1,h2⟩:=RZ (b:=b) (n:=n) (o:=o+1) (R:=λl=>R (v::l)) (λl=>h _) w k hk;exact⟨u,h1,λw1 k1 he dW=>⟨v,by rw[(he rfl).cell (World.block_lt_of_cell? _ _ hv)];exact hv,h2 w1 k1 he dW⟩⟩
theorem aci{C:Cx}{t:TypeId}{v:ao}:cy true λw k=>vA C t v w k:=by
 unfold vA;split
 ·rename_i b o;refine hH λd _=>?_;cases qN d.under with
  | true =>
   cases Nat.ble d.size 16 with
   | true=>exact RZ (R:=λl w k=>k (.agg l.toArray) w) λl=>eg _
   | false =>
    rintro w k⟨l,hl,hc,hk⟩;exact⟨_,hk,λw1 k1 he dW=>⟨l,hl,λj v hj=>by have:=hc j v hj;rw[(he rfl).cell (World.block_lt_of_cell? _ _ this)];exact this,dW⟩⟩
  | false =>
   rintro w k⟨u,hu,hk⟩;exact⟨u,hk,λw1 k1 he dW=>⟨u,by rw[(he rfl).cell (World.block_lt_of_cell? _ _ hu)];exact hu,dW⟩⟩
 ·exact ed
theorem Pv{C:Cx}{rd:Bool}{u:oY}{f:Nat}{R:Nat->TypeId->TD->ae->(ao->ae->Prop)->Prop}(h:∀a b d,cy rd (R a b d)):cy rd λw k=>zT C u f λa b d=>R a b d w k:=by
 unfold zT;split
 ·split
  ·exact hH λdf _=>h _ _ _
  ·exact ed
 ·exact ed
theorem ZK{C:Cx}{rd:Bool}{t:TypeId}{x:ao}{f:Nat}:cy rd λw k=>zS C t x f w k:=by
 unfold zS;split
 ·refine hH λd _=>Pv λa b df=>?_;split<;>first|exact ed|exact eg _
 ·exact ed
theorem ZM{C:Cx}{rd:Bool}{t:TypeId}{x:ao}{f:Nat}:cy rd λw k=>zU C t x f w k:=by
 unfold zU;split
 ·exact hH λd _=>Pv λa b df=>SR
 ·exact ed
theorem abI{C:Cx}{rd:Bool}{t:TypeId}{x i:ao}:cy rd λw k=>ye C t x i w k:=by
 unfold ye;split
 ·refine hH λd _=>?_;split
  ·exact hH λde _=>ke (ke (eg _))
  ·exact hH λde _=>ke (eg _)
  ·exact ed
 ·exact ed
theorem abO{C:Cx}{rd:Bool}{t:TypeId}{x i:ao}:cy rd λw k=>yf C t x i w k:=by
 unfold yf;split
 ·refine hH λd _=>?_;split
  ·refine ke ?_;rintro w k⟨c,hc,hk⟩;exact⟨_,hk,λw1 k1 _ dW=>⟨c,hc,dW⟩⟩
  ·exact hH λde _=>ke SR
  ·exact ed
 ·exact ed
theorem agB{C:Cx}{rd:Bool}{t:TypeId}{x:ao}{lo hi mx:Option ao}:cy rd λw k=>wu C t x lo hi mx w k:=by
 unfold wu;refine hH λd _=>?_;split
 ·split
  ·exact ti λn=>ti λn'=>eg _
  ·exact ed
 ·refine hH λde _=>?_;split
  ·exact ti λn=>ti λn'=>ke (eg _)
  ·refine ti λn=>?_;split
   ·exact ti λn=>ti λn'=>eg _
   ·exact ed
 ·refine hH λde _=>?_;split
  ·exact ti λn=>ti λn'=>eg _
  ·exact ed
 ·exact ed
theorem ah0{rd:Bool}{op:UnOp}{x:ao}:cy rd λw k=>Bh op x λv=>k v w:=by
 unfold Bh;split<;>first|exact eg _|exact xj|exact Hn (ke (eg _)) (eg _)|exact ed
theorem YM{C:Cx}{s d:TypeId}{x:ao}(hq:(match js C.T s,js C.T d with
  | .int _,.int _=>true
  | .string,.string=>true
  | .slice e,.string=>C7 (js C.T e)
  | _,_=>false)=true):cy true λw k=>EG C s d x w k:=by
 refine hH λds jT=>hH λdd vi=>?_;have e1:js C.T s=ds.under:=by simp[js,jT]
 have e2:js C.T d=dd.under:=by simp[js,vi]
 rw[e1,e2]at hq;split
 ·exact Hn (ke (eg _)) (eg _)
 ·exact xj
 ·exact eg _
 ·rename_i e a len cap mF hu2;rw[mF,hu2]at hq;refine hH λde hde=>?_;have e3:js C.T e=de.under:=by simp[js,hde]
  simp only[e3]at hq;rw[hq];rintro w k⟨l,hl,hc,hk⟩;exact⟨_,hk,λw1 k1 he dW=>⟨l,hl,hc.ext (he rfl),dW⟩⟩
 ·rename_i mF hu2;rw[mF,hu2]at hq;cases hq
 ·rename_i mF hu2;rw[mF,hu2]at hq;cases hq
 ·rename_i mF hu2;rw[mF,hu2]at hq;cases hq
 ·exact ed
theorem X0{C:Cx}{rd:Bool}{t:TypeId}{ps:List (Nat×ao)}(hq:(match js C.T t with|.struct _=>true|_=>false)=true):cy rd λw k=>BN C t ps w k:=by
 unfold BN;refine hH λd hd=>?_;have e1:js C.T t=d.under:=by simp[js,hd]
 rw[e1]at hq;unfold Ee;split
 ·dsimp only;split
  ·exact NA (PA (R:=λc' w k=>k (.agg ⟨c'⟩) w) λl=>eg _)
  ·rename_i hu _;rw[hu]at hq;cases hq
  ·exact ed
 ·exact ed
theorem ab9{C:Cx}{rd:Bool}{t:TypeId}{x:ao}:cy rd λw k=>FF C t x λv=>k v w:=by
 unfold FF;refine hH λd _=>?_;split<;>first|exact eg _|exact ed
theorem XS{rd:Bool}{C:Cx}{op:BinOp}{t:TypeId}{y:Operand}{a b:ao}(hq:∀n e,js C.T t≠.array n e):cy rd λw k=>wR C op t y a b w k:=by
 unfold wR;split
 ·refine hH λd _=>?_;split<;>first|exact eg _|exact ed
 ·exact XQ hq
theorem aip{C:Cx}{op:Op}{ty:TypeId}{env:Env}(hq:k8 C.T op=true){Z:List PanicEntry->ae->Prop}:cy (yJ op) λw k=>mR C op ty env w k Z:=by
 cases op;case move x=>exact jt (R:=λv w k=>k v w) λv=>eg v
 case assign x=>exact jt (R:=λv w k=>k v w) λv=>eg v
 case pick c a b =>
  refine jt (R:=λv w k=>(match v with
   | .bool t=>lz 0 t λt'=>(match t' with|true=>cA env a λu=>k u w|false=>cA env b λu=>k u w)
   | _=>False)) λv=>?_
  cases v<;>first
   | exact ed
   | (rename_i t
      cases t with
      | true=>exact jt (R:=λv w k=>k v w) λv=>eg v
      | false=>exact jt (R:=λv w k=>k v w) λv=>eg v)
 case load t x=>exact jt (R:=λv w k=>vA C t v w k) λv=>aci
 case nilCheck x =>
  refine jt (R:=λv w k=>(match v with
   | .pointer (some a)=>k (.pointer (some a)) w
   | .func (.func f) a b=>k (.func (.func f) a b) w
   | .func (.yield f) a b=>k (.func (.yield f) a b) w
   | .map r=>k (.map r) w
   | .iface t u=>k (.iface t u) w
   | _=>False)) λv=>?_
  split<;>first|exact eg _|exact ed
 case binOp op t x y t2 =>
  refine jt (R:=λa w k=>cA env y λb=>wR C op t y a b w k) λa=>jt (R:=λb w k=>wR C op t y a b w k) λb=>XS λn e he=>?_;have:k8 C.T (.binOp op t x y t2)=(match js C.T t with|.array _ _=>false|_=>true):=rfl;rw[this,he]at hq;cases hq
 case unOp op t x=>exact jt (R:=λa w k=>Bh op a λv=>k v w) λa=>ah0
 case convert s d x=>exact jt (R:=λa w k=>EG C s d a w k) λa=>YM hq
 case makeFunc fn first captured =>
  cases fn<;>first
   | exact zc (R:=λa w k=>iW env captured.toList λb=>k (.func (.func _) a.toArray b.toArray) w) λa=>zc (R:=λb w k=>k (.func (.func _) a.toArray b.toArray) w) λb=>eg _
   | cases hq
 case fieldAddr t x f=>exact jt (R:=λa w k=>zS C t a f w k) λa=>ZK
 case field t x f=>exact jt (R:=λa w k=>zU C t a f w k) λa=>ZM
 case indexAddr t x i=>exact jt (R:=λa w k=>cA env i λj=>ye C t a j w k) λa=>jt (R:=λj w k=>ye C t a j w k) λj=>abI
 case index t x i=>exact jt (R:=λa w k=>cA env i λj=>yf C t a j w k) λa=>jt (R:=λj w k=>yf C t a j w k) λj=>abO
 case extract x i =>
  refine jt (R:=λa w k=>Ca a i w k) λa=>?_;unfold Ca;split
  ·exact Dp (R:=λv w k=>k v w) λv=>eg v
  ·exact ed
 case slice t x lo hi mx =>
  exact jt (R:=λa w k=>iW env lo.toList λl=>iW env hi.toList λh=>iW env mx.toList λm=>wu C t a l.head? h.head? m.head? w k) λa =>
   zc (R:=λl w k=>iW env hi.toList λh=>iW env mx.toList λm=>wu C t a l.head? h.head? m.head? w k) λl =>
   zc (R:=λh w k=>iW env mx.toList λm=>wu C t a l.head? h.head? m.head? w k) λh =>
   zc (R:=λm w k=>wu C t a l.head? h.head? m.head? w k) λm=>agB
 case build t parts=>exact SU (R:=λps w k=>BN C t ps w k) λps=>X0 hq
 case call c =>
  obtain⟨X8,args,ts⟩:=c;cases X8 with
  | value f=>cases hq
  | invoke r m=>cases hq
  | builtin b =>
   refine zc (R:=λvs w k=>HY C b ts ty vs w k) λvs=>?_;cases b<;>first|cases hq|skip
   obtain⟨args⟩:=args;obtain⟨ts⟩:=ts;match args,ts,hq with
   | [_],[t],_ =>
    match vs with
    | [x]=>exact ab9
    | []=>exact ed
    | _::_::_=>exact ed
 all_goals cases hq
section
variable(C:Cx)(ops:List Oper)(xs ys:au)(Rel:ae->ae->Prop)(Q:Exit->Act->ae->Prop)
def cS(i:Nat)(o:Oper)(K:Act->ae->Prop)(a:Act)(w:ae):Prop :=
 if Region.wanted o (yielded ops.toArray a.tmps)=true then
  (if k8 C.T o.op=true then ∃v,(∀w1,(yJ o.op=true->(i∈ys/\Rel w w1)\/w1=w)->(Oper.semAt C.r a.eval o).run C.P w1=.ok (.value v) w1)/\K (a.put o.dst v) w
   else o.wpIn (Fr C.r) 0 C.P a w (λa1 w1=>(i∈xs->Rel w w1)/\K a1 w1) Q)
 else K (a.put o.dst undef) w
def Good:List (Nat×Oper)->Act->ae->Prop
 | [],a,w=>Q .normal a w
 | (i,o)::r,a,w=>cS C ops xs ys Rel Q i o (Good r) a w
end
section
variable{C:Cx}{ops:List Oper}{xs ys:au}{Rel:ae->ae->Prop}{Q:Exit->Act->ae->Prop}
theorem aiv{o:Oper}{a:Act}{w:ae}{K:Act->ae->Prop}(h:o.wpIn (Fr C.r) 0 C.P a w K Q):o.wpIn (Fr C.r) 0 C.P a w (λa1 w1=>(∃u,a1.tmps=(a.put o.dst u).tmps)/\K a1 w1) Q:=by
 refine⟨h.1,?_⟩;have h:=h.2;generalize (o.semAt (Fr C.r).round a.eval).run C.P w=r at h |-;cases r with
 | ok n w' =>
  cases n<;>simp only[Oper.uponIn]at h |-<;>first
   | exact⟨⟨_,rfl⟩,h⟩
   | (refine⟨h.1,CallsIn.mono h.2 λe uH he=>?_⟩
      cases e with
      | returned u=>exact⟨⟨_,rfl⟩,he⟩
      | panicked ch=>exact he
      | outgrown=>exact he)
   | (refine⟨h.1,RowsIn.mono h.2 λu uH he=>?_⟩
      exact⟨⟨_,rfl⟩,he⟩)
   | (refine⟨h.1,RoundIn.mono h.2 λe uH he=>?_⟩
      cases e with
      | returned u=>exact⟨⟨_,rfl⟩,he⟩
      | panicked ch=>exact he
      | outgrown=>exact he)
   | (refine⟨⟨undef,?_⟩,h⟩
      cases o.dst<;>rfl)
   | exact h
 | halt x w'=>cases x<;>simp only[Oper.uponIn]at h |-<;>exact h
theorem cS.mono{i:Nat}{o:Oper}{K K':Act->ae->Prop}{a:Act}{w:ae}(h:cS C ops xs ys Rel Q i o K a w)
  (hk:∀a1 w1,(∃u,a1.tmps=(a.put o.dst u).tmps)->(w1=w\/(k8 C.T o.op=false/\(i∈xs->Rel w w1)))->K a1 w1->K' a1 w1):cS C ops xs ys Rel Q i o K' a w:=by
 unfold cS at h |-;split at h
 ·rename_i hw;rw[if_pos hw];split at h
  ·rename_i hq;rw[if_pos hq];obtain⟨v,h1,h2⟩:=h;exact⟨v,h1,hk _ _ ⟨_,rfl⟩ (.inl rfl) h2⟩
  ·rename_i hq;rw[if_neg hq];exact Oper.wpIn_mono (λa1 w1 ⟨h0,h1,h2⟩=>⟨h1,hk _ _ h0 (.inr ⟨by simpa using hq,h1⟩) h2⟩) (aiv h)
 ·rename_i hw;rw[if_neg hw];exact hk _ _ ⟨_,rfl⟩ (.inl rfl) h
theorem cS.sound{i:Nat}{o:Oper}{K:Act->ae->Prop}{a:Act}{w:ae}(ho:ops[i]?=some o)(h:cS C ops xs ys Rel Q i o K a w):wpOpIn (Fr C.r) 0 C.P ops.toArray Q i K a w:=by
 have lI:ops.toArray[i]?=some o:=by simpa using ho
 unfold cS at h;unfold wpOpIn;simp only[lI];split at h
 ·rename_i hw;rw[if_pos hw];split at h
  ·obtain⟨v,h1,h2⟩:=h;refine⟨λ_ _=>trivial,?_⟩;have e:(Fr C.r).round=C.r:=rfl;rw[e,h1 w (λ_=>.inr rfl)];exact h2
  ·exact Oper.wpIn_mono (λ_ _ h=>h.2) h
 ·rename_i hw;rw[if_neg hw];exact⟨λ_ _=>trivial,h⟩
theorem ack{x:Operand}{o:Oper}{t:Tmp}(hx:x∈o.op.operands)(ht:x=.tmp t)(KX:Array Oper):t∈o.looksAt KX:=by
 subst ht;simp only[Oper.looksAt,cq,List.mem_filterMap];exact .inl ⟨.tmp t,by simpa using hx,rfl⟩
theorem wanted_put{o:Oper}{a:Act}{d:Option Tmp}{v:ao}(h:∀t,d=some t->t∉o.looksAt ops.toArray):Region.wanted o (yielded ops.toArray (a.put d v).tmps)=Region.wanted o (yielded ops.toArray a.tmps):=by
 unfold Region.wanted;split
 ·rfl
 ·rename_i j want hg;congr 1;unfold yielded;cases hj:(ops.toArray[j]?).bind (·.dst)with
  | none=>rfl
  | some s =>
   simp only[Gy];have:(a.put d v).tmps[s]?=a.tmps[s]?:=by
    cases d with
    | none=>rfl
    | some t =>
     have hne:t≠s:=by
      intro e;subst e;refine h t rfl ?_;simp only[Oper.looksAt,cq,hg];exact .inr (by rw[hj];simp)
     simp[Act.put,Array.getElem?_setIfInBounds_ne hne]
   rw[this]
theorem GX{o:Oper}{a:Act}{d:Option Tmp}{v:ao}(hs:∀cs b,o.op≠.select cs b)(h:∀t,d=some t->t∉o.looksAt ops.toArray):Oper.semAt C.r (a.put d v).eval o=Oper.semAt C.r a.eval o:=by
 have he:∀x∈o.op.operands,(a.put d v).eval x=a.eval x:=λx hx=>Act.eval_put λt ht e=>h t ht (ack hx e _);unfold Oper.semAt;split
 ·rename_i l c _ hop;have:resolve (a.put d v).eval c o.type=resolve a.eval c o.type:=resolve_congr c o.type λx hx=>he x (by rw[hop];simpa [Op.operands]using hx);rw[this]
 ·exact execOp_congr o hs he
def KP:Op->Bool
 | .select _ _=>false
 | _=>true
theorem cS.EF{i:Nat}{o:Oper}{K:Act->ae->Prop}{a:Act}{w:ae}{d:Option Tmp}{v:ao}(hs:KP o.op=true)
  (h1:∀t,d=some t->t∉o.looksAt ops.toArray) (h2:∀t,d=some t->o.dst≠some t) (hQ:∀ch a w,Q (.panic ch) (a.put d v) w->Q (.panic ch) a w)
  (h:cS C ops xs ys Rel Q i o K (a.put d v) w):cS C ops xs ys Rel Q i o (λa1 w1=>K (a1.put d v) w1) a w:=by
 have Rg:∀cs b,o.op≠.select cs b:=λcs b e=>by rw[e]at hs;cases hs
 unfold cS at h |-;rw[wanted_put h1]at h;split at h
 ·rename_i hw;rw[if_pos hw];rw[GX Rg h1]at h;split at h
  ·rename_i hq;rw[if_pos hq];obtain⟨u,h3,h4⟩:=h;refine⟨u,h3,?_⟩;show K ((a.put o.dst u).put d v) w;rw[Act.put_comm a (x:=o.dst) (y:=d) u v (λt ht hd=>h2 t hd ht)];exact h4
  ·rename_i hq;rw[if_neg hq];refine⟨λ_ _=>trivial,?_⟩;have h:=h.2;have e:(Fr C.r).round=C.r:=rfl;rw[e]at h |-;rw[GX Rg h1]at h;have pc:∀u,(a.put d v).put o.dst u=(a.put o.dst u).put d v:=λu=>(Act.put_comm a (x:=o.dst) (y:=d) u v (λt ht hd=>h2 t hd ht)).symm;generalize (o.semAt C.r a.eval).run C.P w=r at h;cases r with
   | ok n w' =>
    cases n<;>simp only[Oper.uponIn]at h |-<;>first
     | exact h
     | (rw[pc]at h;exact h)
     | (refine⟨h.1,CallsIn.mono h.2 λe uH he=>?_⟩
        cases e with
        | returned u=>simp only at he |-;rw[pc]at he;exact he
        | panicked ch=>exact hQ _ _ _ he
        | outgrown=>exact he)
     | (refine⟨h.1,RowsIn.mono h.2 λu uH he=>?_⟩
        rw[pc]at he;exact he)
     | (refine⟨h.1,RoundIn.mono h.2 λe uH he=>?_⟩
        cases e with
        | returned u=>simp only at he |-;rw[pc]at he;exact he
        | panicked ch=>exact hQ _ _ _ he
        | outgrown=>exact he)
     | (rename_i dd
        have e2:({ a.put d v with defers:=dd::(a.put d v).defers }:Act).put o.dst undef=(({ a with defers:=dd::a.defers }:Act).put o.dst undef).put d v:=by
         rw[Act.put_defers];exact(Act.put_comm _ (x:=o.dst) (y:=d) undef v (λt ht hd=>h2 t hd ht)).symm
        rw[e2]at h;exact h)
   | halt x w' =>
    cases x<;>simp only[Oper.uponIn]at h |-<;>first|exact h|exact hQ _ _ _ h
 ·rename_i hw;rw[if_neg hw];show K ((a.put o.dst undef).put d v) w;rw[Act.put_comm a (x:=o.dst) (y:=d) undef v (λt ht hd=>h2 t hd ht)];exact h
def uQ(T:List TD)(KX:Array Oper)(xs ys:au)(j:Nat)(x:Oper)(i:Nat)(o:Oper):Bool :=
 k8 T x.op&&x.apart KX o&&KP x.op&&KP o.op&&(k8 T o.op||!yJ x.op||(xs.contains i&&ys.contains j))
theorem Good.move{i:Nat}{o:Oper}{B:List (Nat×Oper)}(hR:∀a b c:ae,Rel a b->Rel b c->Rel a c)(hQ:∀d v ch a w,Q (.panic ch) (Act.put a d v) w->Q (.panic ch) a w):∀ {A:List (Nat×Oper)} {a:Act} {w:ae},
  (∀p∈A,uQ C.T ops.toArray xs ys p.1 p.2 i o=true)->Good C ops xs ys Rel Q (A++(i,o)::B) a w->cS C ops xs ys Rel Q i o (Good C ops xs ys Rel Q (A++B)) a w
 | [],a,w,_,h=>h
 | (j,x)::A,a,w,hA,h=>by
  have hb:=hA (j,x) ai;simp only[uQ,dM,rf,A7,pV]at hb;obtain⟨⟨⟨⟨hq,Jr⟩,fp⟩,x7⟩,bF⟩:=hb;obtain⟨a1,a2,a3⟩:=Oper.apart_spec Jr;have Kg:∀cs b,x.op≠.select cs b:=λcs b e=>by rw[e]at fp;cases fp
  have ih:=λa w h=>Good.move (B:=B) hR hQ (A:=A) (a:=a) (w:=w) (λp hp=>hA p (by simp[hp])) h;simp only[aL,Good]at h;unfold cS at h;split at h
  ·rename_i hw;obtain⟨v,hv,h⟩:=h;have h:=cS.EF x7 a1 a2 (hQ x.dst v) (ih _ _ h);refine cS.mono h λb w1 ⟨u,hb⟩ C0 hg=>?_;have hev:b.eval=(a.put o.dst u).eval:=by funext z;cases z<;>simp[Act.eval,hb]
   show cS C ops xs ys Rel Q j x (Good C ops xs ys Rel Q (A++B)) b w1;unfold cS;rw[hb,wanted_put (λt ht=>a3 t ht),if_pos hw,if_pos hq,hev,GX Kg (λt ht=>a3 t ht)];refine⟨v,λw2 h2=>hv w2 λhr=>?_,hg⟩;rcases C0 with rfl|⟨J1,hx⟩
   ·exact h2 hr
   ·rcases bF with(hqo|hnr)|⟨hi,hj⟩
    ·simp[hqo]at J1
    ·simp[hr]at hnr
    ·rcases h2 hr with⟨_,h3⟩|rfl
     ·exact .inl ⟨hj,hR _ _ _ (hx hi) h3⟩
     ·exact .inl ⟨hj,hx hi⟩
  ·rename_i hw;have h:=cS.EF x7 a1 a2 (hQ x.dst undef) (ih _ _ h);refine cS.mono h λb w1 ⟨u,hb⟩ C0 hg=>?_;show cS C ops xs ys Rel Q j x (Good C ops xs ys Rel Q (A++B)) b w1;unfold cS;rw[hb,wanted_put (λt ht=>a3 t ht),if_neg hw];exact hg
def sH(o:Oper):au:=(o.after.toList.filter λe=>Region.binds .any e).map (·.on)
def mc(ops:List Oper):Nat->Nat->au
 | 0,_=>[]
 | n+1,i=>match ops[i]? with
  | some o=>sH o++(sH o).flatMap (mc ops n)
  | none=>[]
def qb(ops:List Oper):au->Bool
 | []=>true
 | i::r=>(match ops[i]? with
  | some o=>(sH o).all λj=>decide (j<ops.length)&&!(i::r).contains j
  | none=>false)&&qb ops r
def qS(T:List TD)(ops:List Oper)(xs ys:au):au->Bool
 | []=>true
 | x::r=>(match ops[x]? with
  | some ox=>r.all λi=>(mc ops ops.length i).contains x||(match ops[i]? with
   | some oi=>uQ T ops.toArray xs ys x ox i oi
   | none=>false)
  | none=>false)&&qS T ops xs ys r
def yv(T:List TD)(ops:List Oper)(xs ys π:au):Bool :=
 qb ops π&&qS T ops xs ys π&&((List.range ops.length).all λi=>π.contains i)&&decide (π.length=ops.length)&&decide π.Nodup&&π.all λi=>decide (i<ops.length)
def mS(ops:List Oper)(l:au):List (Nat×Oper):=l.filterMap λi=>(ops[i]?).map λo=>(i,o)
theorem Vl{A B:au}{i:Nat}:qb ops (A++i::B)=true->qb ops (A++B)=true:=by
 induction A with
 | nil=>intro h;simp only[aA,qb,dM]at h |-;exact h.2
 | cons x A ih =>
  intro h;simp only[aL,qb,dM]at h |-;refine⟨?_,ih h.2⟩;have h1:=h.1;cases ho:ops[x]? with
  | none=>simp[ho]at h1
  | some o =>
   simp only[ho]at h1;refine bj.2 λj hj=>?_;have:=bj.1 h1 j hj;simp only[dM,decide_eq_true_eq,A7,<-Gz,pV,bB,cq,not_or]at this |-;exact⟨this.1,this.2.1,this.2.2.1,this.2.2.2.2⟩
theorem adN{A B:au}{i:Nat}:qS C.T ops xs ys (A++i::B)=true->qS C.T ops xs ys (A++B)=true:=by
 induction A with
 | nil=>intro h;simp only[aA,qS,dM]at h |-;exact h.2
 | cons x A ih =>
  intro h;simp only[aL,qS,dM]at h |-;refine⟨?_,ih h.2⟩;have h1:=h.1;cases ho:ops[x]? with
  | none=>simp[ho]at h1
  | some o =>
   simp only[ho]at h1;refine bj.2 λj hj=>bj.1 h1 j ?_;simp only[cq,bB]at hj |-;rcases hj with hj|hj
   ·exact .inl hj
   ·exact .inr (.inr hj)
theorem adO{A B:au}{i:Nat}{o:Oper}(ho:ops[i]?=some o)(h:qS C.T ops xs ys (A++i::B)=true)(hn:∀x∈A,x∉mc ops ops.length i) :
  ∀p∈mS ops A,uQ C.T ops.toArray xs ys p.1 p.2 i o=true:=by
 induction A with
 | nil=>intro p hp;simp[mS]at hp
 | cons x A ih =>
  intro p hp;simp only[aL,qS,dM]at h;have h1:=h.1;split at h1
  ·rename_i ox hox;simp only[mS,List.filterMap_cons,hox,gA,bB]at hp;rcases hp with rfl|hp
   ·have:=bj.1 h1 i ai;simp only[ho,rf,pV]at this;exact this.resolve_left (hn x ai)
   ·exact ih h.2 (λy hy=>hn y (by simp[hy])) p hp
  ·cases h1
theorem NC{listed:Array Bool}(hcl:∀i o,ops[i]?=some o->listed.getD i true=true->∀j∈sH o,listed.getD j false=true)(hlt:∀j,listed.getD j false=true->listed.getD j true=true) :
  ∀n i o,ops[i]?=some o->(∀j∈sH o,listed.getD j false=true)->∀x∈mc ops n i,listed.getD x false=true:=by
 intro n;induction n with
 | zero=>intro i o _ _ x hx;simp[mc]at hx
 | succ n ih =>
  intro i o ho hp x hx;simp only[mc,ho,cq,List.mem_flatMap]at hx;rcases hx with hx|⟨j,hj,hx⟩
  ·exact hp x hx
  ·cases qG:ops[j]? with
   | none=>cases n<;>simp[mc,qG]at hx
   | some oj=>exact ih j oj qG (hcl j oj qG (hlt j (hp j hj))) x hx
theorem A9{listed:Array Bool}{i:Nat}:i∈Region.ready .any ops.toArray listed↔∃o,ops[i]?=some o/\listed.getD i true=false/\∀j∈sH o,listed.getD j false=true:=by
 simp only[Region.ready,vS,List.mem_range,vT,dM,A7];constructor
 ·rintro⟨hlt,h1,h2⟩;have ho:ops.toArray[i]?=some ops[i]:=by simp[hlt]
  rw[ho]at h2;simp only[gA,k6,TN]at h2;refine⟨ops[i],by simp[hlt],h1,λj hj=>?_⟩;simp only[sH,cG,vS]at hj;obtain⟨e,⟨he,hb⟩,rfl⟩:=hj;have:=h2 e (by simpa using he);simpa [hb]using this
 ·rintro⟨o,ho,h1,h2⟩;have hlt:i<ops.length:=(cW.1 ho).1;refine⟨hlt,h1,?_⟩;have lI:ops.toArray[i]?=some o:=by simpa using ho
  rw[lI];simp only[gA,k6,TN];intro e he;cases hb:Region.binds .any e with
  | false=>simp
  | true =>
   have:=h2 e.on (by simp only[sH,cG,vS];exact⟨e,⟨by simpa using he,hb⟩,rfl⟩);simp only[Bool.not_true,Bool.false_or];exact this
theorem Wm(A B:au):mS ops (A++B)=mS ops A++mS ops B:=by simp[mS]
theorem Nh{i:Nat}{o:Oper}(ho:ops[i]?=some o)(B:au):mS ops (i::B)=(i,o)::mS ops B:=by simp[mS,ho]
theorem Good.any(Cq:∀a b c:ae,Rel a b->Rel b c->Rel a c)(hQ:∀d v ch a w,Q (.panic ch) (Act.put a d v) w->Q (.panic ch) a w):∀(fuel:Nat) (R:au) (listed:Array Bool) (a:Act) (w:ae),R.length<=fuel->R.Nodup->listed.size=ops.length ->
  (∀i,i<ops.length->(listed.getD i true=false↔i∈R))->(∀i∈R,i<ops.length)->(∀i o,ops[i]?=some o->listed.getD i true=true->∀j∈sH o,listed.getD j false=true) ->
  qb ops R=true->qS C.T ops xs ys R=true->Good C ops xs ys Rel Q (mS ops R) a w->wpAnyIn (Fr C.r) 0 C.P .any ops.toArray Q fuel listed a w:=by
 intro fuel;induction fuel with
 | zero =>
  intro R listed a w hl ij hsz hR hlt hcl ht hp h;have:R=[]:=bL aa;subst this;refine⟨?_,h⟩;rw[List.eq_nil_iff_forall_not_mem];intro i hi;obtain⟨o,ho,h1,_⟩:=A9.1 hi;exact absurd ((hR i (cW.1 ho).1).1 h1) ai
 | succ fuel ih =>
  intro R listed a w hl ij hsz hR hlt hcl ht hp h;have tL:∀j,j<ops.length->listed.getD j false=listed.getD j true:=by
   intro j hj;have:j<listed.size:=aa;simp[Array.getD,this]
  have CH:∀j,listed.getD j false=true->listed.getD j true=true:=by
   intro j hj;by_cases hlt:j<listed.size
   ·simpa [Array.getD,hlt]using hj
   ·simp[Array.getD,hlt]at hj
  refine⟨λJZ=>?_,λi hi=>?_⟩
  ·cases R with
   | nil=>exact h
   | cons x R =>
    exfalso;simp only[qb,dM]at ht;have hx:x∈Region.ready .any ops.toArray listed:=by
     have h1:=ht.1;split at h1
     ·rename_i o ho;refine A9.2 ⟨o,ho,(hR x (hlt x ai)).2 ai,λj hj=>?_⟩;have:=bj.1 h1 j hj;simp only[dM,decide_eq_true_eq,A7,<-Gz,pV]at this;rw[tL j this.1];cases hv:listed.getD j true with
      | true=>rfl
      | false=>exact absurd ((hR j this.1).1 hv) this.2
     ·cases h1
    rw[JZ]at hx;simp at hx
  ·obtain⟨o,ho,h1,h2⟩:=A9.1 hi;have JK:=(cW.1 ho).1;have JJ:=(hR i JK).1 h1;obtain⟨A,B,rfl⟩:=List.append_of_mem JJ;have hna:∀x∈A,x∉mc ops ops.length i:=by
    intro x hx hc;have hxl:=NC hcl CH ops.length i o ho h2 x hc;have Ko:=hlt x (by simp[hx]);have:=(hR x Ko).2 (by simp[hx]);rw[CH x hxl]at this;cases this
   rw[Wm,Nh ho]at h;have hm:=Good.move Cq hQ (adO ho hp hna) h;rw[<-Wm]at hm;refine wpOpIn_mono (λa1 w1 hg=>?_) (cS.sound ho hm);have CN:i∉A++B:=by
    have:=ij;rw[vU]at this;intro hc;rcases cq.1 hc with hc|hc
    ·exact this.2.2 i hc i ai rfl
    ·exact(Dy.1 this.2.1).1 hc
   have tS:∀j d,(listed.setIfInBounds i true).getD j d=if i=j then true else listed.getD j d:=by
    intro j d;by_cases hj:j<listed.size
    ·by_cases e:i=j
     ·subst e;simp[Array.getD,hj]
     ·simp[Array.getD,hj,e]
    ·by_cases e:i=j
     ·subst e;omega
     ·simp[Array.getD,hj,e]
   refine ih (A++B) _ a1 w1 (by simp at hl |-;omega) ?_ (by simpa using hsz) ?_ ?_ ?_ (Vl ht) (adN hp) hg
   ·have:=ij;rw[vU]at this |-;refine⟨this.1,(Dy.1 this.2.1).2,λx hx y hy=>this.2.2 x hx y (by simp[hy])⟩
   ·intro j hj;rw[tS];by_cases e:i=j
    ·subst e;simp only[if_true];exact⟨λh=>(by cases h),λh=>absurd h CN⟩
    ·rw[if_neg e,hR j hj];simp only[cq,bB];constructor
     ·rintro(h|h|h)
      ·exact .inl h
      ·exact absurd h.symm e
      ·exact .inr h
     ·rintro(h|h)
      ·exact .inl h
      ·exact .inr (.inr h)
   ·intro j hj;refine hlt j ?_;simp only[cq,bB]at hj |-;rcases hj with hj|hj
    ·exact .inl hj
    ·exact .inr (.inr hj)
   ·intro j oj qG xO k hk;rw[tS]at xO |-;by_cases e:i=j
    ·subst e;rw[ho]at qG;cases qG;have:=h2 k hk;split
     ·rfl
     ·exact this
    ·rw[if_neg e]at xO;have:=hcl j oj qG xO k hk;split
     ·rfl
     ·exact this
def nv(i:Nat):au->Bool
 | []=>false
 | j::r=>match Nat.beq i j with|true=>true|false=>nv i r
theorem ua{i:Nat}{l:au}:nv i l=true↔i∈l:=by
 induction l with
 | nil=>simp[nv]
 | cons j r ih =>
  simp only[nv,bB];cases e:Nat.beq i j with
  | true=>simp[pN e]
  | false=>simp only[ih];exact⟨.inr,λh=>h.resolve_left (Lj e)⟩
def AF:List Oper->Nat->(Oper->Prop)->Prop
 | [],_,_=>False
 | o::_,0,k=>k o
 | _::r,i+1,k=>AF r i k
theorem F1{l:List Oper}{i:Nat}{k:Oper->Prop}(h:AF l i k):∃o,l[i]?=some o/\k o:=by
 induction l generalizing i with
 | nil=>exact h.elim
 | cons o r ih =>
  cases i with
  | zero=>exact⟨o,rfl,h⟩
  | succ i=>obtain⟨o',h1,h2⟩:=ih h;exact⟨o',h1,h2⟩
def IP(b:Bool)(w w':ae)(K:Prop):Prop:=match b with|true=>Ext w w'/\K|false=>K
theorem EO{b:Bool}{w w':ae}{K:Prop}(h:IP b w w' K):(b=true->Ext w w')/\K:=by
 cases b with
 | true=>exact⟨λ_=>h.1,h.2⟩
 | false=>exact⟨λh=>(by cases h),h⟩
end
abbrev qg:=Env->ae->(Env->ae->Prop)->(List PanicEntry->ae->Prop)->Prop
def AG(C:Cx)(ops:List Oper)(xs:au)(i:Nat)(_:au)(r:qg):qg:=λenv w K Z=>AF ops i λo=>u9 ops env o.guard
   (λaJ=>mR C o.op o.type aJ w (λv w'=>IP (nv i xs) w w' (nH C.n o.dst v aJ λdO=>r dO w' K Z)) Z)
   (λaJ=>nH C.n o.dst undef aJ λdO=>r dO w K Z)
noncomputable def y9(C:Cx)(ops:List Oper)(xs:au)(l:au):qg:=List.rec (motive:=λ_=>qg) F2 (AG C ops xs) l
theorem ain{C:Cx}{ops:List Oper}{xs:au}{i:Nat}{rest:au}{env:Env}{w:ae}{K:Env->ae->Prop}{Z:List PanicEntry->ae->Prop}:y9 C ops xs (i::rest) env w K Z=AF ops i λo=>u9 ops env o.guard
   (λaJ=>mR C o.op o.type aJ w (λv w'=>IP (nv i xs) w w' (nH C.n o.dst v aJ λdO=>y9 C ops xs rest dO w' K Z)) Z)
   (λaJ=>nH C.n o.dst undef aJ λdO=>y9 C ops xs rest dO w K Z):=rfl
theorem Ht{C:Cx}(hT:bK C.P C.T){o:Oper}{env:Env}{a:Act}(hs:Sat env a.tmps){w:ae}{k:ao->ae->Prop}{Z:List PanicEntry->ae->Prop}(hq:k8 C.T o.op=true)
  (h:mR C o.op o.type env w k Z):∃v,(∀w1,(yJ o.op=true->Ext w w1)->(Oper.semAt C.r a.eval o).run C.P w1=.ok (.value v) w1)/\k v w:=by
 obtain⟨v,hk,hu⟩:=aip hq w k h;refine⟨v,λw1 he=>?_,hk⟩;have h1:=hu w1 (λu w2=>u=v/\w2=w1) he ⟨rfl,rfl⟩;rcases Ng hT hs h1 with⟨s,h2,u,w',hr,rfl,rfl⟩|⟨hf,_⟩|⟨hf,_⟩|⟨hf,_⟩|⟨hf,_⟩
 ·rw[h2];simp[hr]
 ·simp[hq]at hf
 ·simp[hq]at hf
 ·simp[hq]at hf
 ·simp[hq]at hf
theorem Ho{C:Cx}(hT:bK C.P C.T){ops:List Oper}{xs ys:au}{Q:Exit->Act->ae->Prop}{K:Env->ae->Prop}{Z:List PanicEntry->ae->Prop}{ds:List Deferred}
  (hQ:∀env (a:Act) w,Sat env a.tmps->a.tmps.size=C.n->a.defers=ds->K env w->Q .normal a w) (hZ:∀(a:Act) w ch,a.tmps.size=C.n->a.defers=ds->Z ch w->Q (.panic ch) a w) :
  ∀ {l:au} {env:Env} {a:Act} {w:ae},Sat env a.tmps->a.tmps.size=C.n->a.defers=ds->y9 C ops xs l env w K Z->Good C ops xs ys Ext Q (mS ops l) a w
 | [],env,a,w,hs,hn,hd,h=>hQ env a w hs hn hd h
 | i::rest,env,a,w,hs,hn,hd,h=>by
  rw[ain]at h;obtain⟨o,ho,h⟩:=F1 h;rw[Nh ho];simp only[Good,cS];rcases Aa h hs with⟨hw,aJ,hs',h'⟩|⟨hw,aJ,hs',h'⟩
  ·rw[if_pos hw];cases hq:k8 C.T o.op with
   | true =>
    rw[if_pos rfl];obtain⟨v,h1,h2⟩:=Ht hT hs' hq h';refine⟨v,λw1 hr=>h1 w1 λh=>(hr h).elim (·.2) (λe=>e▸Ext.refl _),?_⟩;obtain⟨dO,h3,h4,h5,h6⟩:=lR (EO h2).2 hs' hn;exact Ho hT hQ hZ h3 h4 (h5.trans hd) h6
   | false =>
    rw[if_neg ai];refine zb hT hs' h' (λv w' hk=>?_) (λch w' hz=>hZ a w' ch hn hd hz);obtain⟨h1,h2⟩:=EO hk;refine⟨λhi=>h1 (ua.2 hi),?_⟩;obtain⟨dO,h3,h4,h5,h6⟩:=lR h2 hs' hn;exact Ho hT hQ hZ h3 h4 (h5.trans hd) h6
  ·rw[if_neg (by simp[hw])];obtain⟨dO,h3,h4,h5,h6⟩:=lR h' hs' hn;exact Ho hT hQ hZ h3 h4 (h5.trans hd) h6
structure Bt(w w1:ae):Prop where
 heap:w1.heap=w.heap
 ext:Ext w w1
theorem O6{C:Cx}(hT:bK C.P C.T)(hm:C.P.follows .mixedOrders=true){id:Nat}{ops:Array Oper}{env:Env}{ds:List Deferred}{w:ae}{Q:ic}(xs π:au)
  (hok:yv C.T ops.toList xs π π=true)
  (h:∀w1,Bt w w1->y9 C ops.toList xs π env w1 (λaJ w'=>nG aJ C.live λe'=>Q .normal e' ds w') (λch w'=>Q (.panic ch) [] ds w')) :
  aP C (.region id ops true) env ds w Q:=by
 refine⟨λa hs hn hd=>?_⟩;simp only[yv,dM,decide_eq_true_eq]at hok;obtain⟨⟨⟨⟨⟨ht,hp⟩,hall⟩,hlen⟩,xR⟩,xP⟩:=hok;have hmem:∀i,i<ops.toList.length->i∈π:=λi hi=>by simpa using bj.1 hall i (by simpa using hi)
 have key:=h { w with drawn:=w.drawn+1 } ⟨rfl,rfl,rfl,rfl,aK _,λ_ _=>rfl⟩;let Q':Exit->Act->ae->Prop:=λe a' w'=>a'.tmps.size=C.n/\match e with
  | .panic ch=>Q (.panic ch) [] a'.defers w'
  | e=>∃aJ,Sat aJ a'.tmps/\Q e aJ a'.defers w'
 refine wpIn_mono (Q:=Q') ?_ (λe a' w' hq=>?_)
 ·refine wpIn_region_any hm ?_;have hg:Good C ops.toList xs π Ext Q' (mS ops.toList π) a { w with drawn:=w.drawn+1 }:=by
   refine Ho hT (ds:=ds) (λaJ a' w' h1 h2 h3 h4=>?_) (λa' w' ch h1 h2 h3=>?_) hs hn hd key
   ·obtain⟨e',h5,h6⟩:=sI h4;exact⟨h2,e',λt v ht=>h1 t v (h5 t v ht),h3▸h6⟩
   ·exact⟨h1,h2▸h3⟩
  have hlt:∀i∈π,i<ops.toList.length:=λi hi=>by simpa using bj.1 xP i hi
  have:=Good.any (C:=C) (ops:=ops.toList) (xs:=xs) (ys:=π) (Rel:=Ext) (Q:=Q') (λ_ _ _ h k=>Ext.trans h k) (λd v ch a w hq=>by
   obtain⟨h1,h2⟩:=hq;refine⟨?_,?_⟩
   ·cases d<;>simpa [Act.put]using h1
   ·cases d<;>exact h2) ops.size π (Array.replicate ops.size false) a { w with drawn:=w.drawn+1 } (by simp[hlen]) xR ai (λi hi=>?_) hlt (λi o ho hl=>?_) ht hp hg
  ·simpa using this
  ·have:i<ops.size:=by simpa using hi
   simp[Array.getD,this,hmem i hi]
  ·have:i<ops.size:=by simpa using(cW.1 ho).1
   simp[Array.getD,this]at hl
 ·obtain⟨h1,h2⟩:=hq;cases e with
  | panic ch=>exact⟨h1,[],Sat.nil _,h2⟩
  | _=>exact⟨h1,h2⟩
structure dB(X:au)(w w':ae):Prop where
 size:w.heap.size<=w'.heap.size
 block:∀j,j<w.heap.size->j∉X->w'.heap[j]?=w.heap[j]?
theorem dB.trans{X:au}{a b c:ae}(h:dB X a b)(k:dB X b c):dB X a c :=
 ⟨sJ h.size k.size,λj hj hx=>(k.block j (Tg hj h.size) hx).trans (h.block j hj hx)⟩
theorem dB.D5{X:au}{w w':ae}{b:Nat}{l:aD}{t:TypeId}(h:td w b l t w')(hb:b∈X):dB X w w' :=
 ⟨by rw[h.size];exact aK _,λj _ hx=>h.other λe=>hx (e▸hb)⟩
def DT(b:Bool)(S:Prop)(K:Prop):Prop:=match b with|true=>S/\K|false=>K
theorem wB{b:Bool}{S K:Prop}(h:DT b S K):(b=true->S)/\K:=by
 cases b with
 | true=>exact⟨λ_=>h.1,h.2⟩
 | false=>exact⟨λh=>(by cases h),h⟩
def AH(C:Cx)(Rel:ae->ae->Prop)(ops:List Oper)(xs ys:au)(i:Nat)(_:au)(r:qg):qg:=λenv w K Z=>AF ops i λo=>u9 ops env o.guard
   (λaJ=>mR C o.op o.type aJ w (λv w'=>DT (nv i xs) (Rel w w') (DT (nv i ys) (∀w1,Rel w w1->mR C o.op o.type aJ w1 (λv1 w2=>v1=v/\w2=w1) (λ_ _=>False)) (nH C.n o.dst v aJ λdO=>r dO w' K Z))) Z)
   (λaJ=>nH C.n o.dst undef aJ λdO=>r dO w K Z)
noncomputable def D7(C:Cx)(Rel:ae->ae->Prop)(ops:List Oper)(xs ys:au)(l:au):qg:=List.rec (motive:=λ_=>qg) F2 (AH C Rel ops xs ys) l
theorem aio{C:Cx}{Rel:ae->ae->Prop}{ops:List Oper}{xs ys:au}{i:Nat}{rest:au}{env:Env}{w:ae}{K:Env->ae->Prop}{Z:List PanicEntry->ae->Prop}:D7 C Rel ops xs ys (i::rest) env w K Z=AF ops i λo=>u9 ops env o.guard
   (λaJ=>mR C o.op o.type aJ w (λv w'=>DT (nv i xs) (Rel w w') (DT (nv i ys) (∀w1,Rel w w1->mR C o.op o.type aJ w1 (λv1 w2=>v1=v/\w2=w1) (λ_ _=>False)) (nH C.n o.dst v aJ λdO=>D7 C Rel ops xs ys rest dO w' K Z))) Z)
   (λaJ=>nH C.n o.dst undef aJ λdO=>D7 C Rel ops xs ys rest dO w K Z):=rfl
theorem Wj{C:Cx}(hT:bK C.P C.T){o:Oper}{env:Env}{a:Act}(hs:Sat env a.tmps){w:ae}{v:ao}(hq:k8 C.T o.op=true)
  (h:mR C o.op o.type env w (λu w2=>u=v/\w2=w) (λ_ _=>False)):(Oper.semAt C.r a.eval o).run C.P w=.ok (.value v) w:=by
 rcases Ng hT hs h with⟨s,h2,u,w',hr,rfl,rfl⟩|⟨hf,_⟩|⟨hf,_⟩|⟨hf,_⟩|⟨hf,_⟩
 ·rw[h2];simp[hr]
 ·simp[hq]at hf
 ·simp[hq]at hf
 ·simp[hq]at hf
 ·simp[hq]at hf
theorem Hr{C:Cx}(hT:bK C.P C.T){Rel:ae->ae->Prop}{ops:List Oper}{xs ys:au}{Q:Exit->Act->ae->Prop}{K:Env->ae->Prop}{Z:List PanicEntry->ae->Prop}{ds:List Deferred}
  (hQ:∀env (a:Act) w,Sat env a.tmps->a.tmps.size=C.n->a.defers=ds->K env w->Q .normal a w) (hZ:∀(a:Act) w ch,a.tmps.size=C.n->a.defers=ds->Z ch w->Q (.panic ch) a w) :
  ∀ {l:au} {env:Env} {a:Act} {w:ae},Sat env a.tmps->a.tmps.size=C.n->a.defers=ds->D7 C Rel ops xs ys l env w K Z->Good C ops xs ys Rel Q (mS ops l) a w
 | [],env,a,w,hs,hn,hd,h=>hQ env a w hs hn hd h
 | i::rest,env,a,w,hs,hn,hd,h=>by
  rw[aio]at h;obtain⟨o,ho,h⟩:=F1 h;rw[Nh ho];simp only[Good,cS];rcases Aa h hs with⟨hw,aJ,hs',h'⟩|⟨hw,aJ,hs',h'⟩
  ·rw[if_pos hw];cases hq:k8 C.T o.op with
   | true =>
    rw[if_pos rfl];obtain⟨v,h1,h2⟩:=Ht hT hs' hq h';obtain⟨_,h2⟩:=wB h2;obtain⟨hst,h2⟩:=wB h2;refine⟨v,λw1 hr=>?_,?_⟩
    ·cases bF:yJ o.op with
     | false=>exact h1 w1 λh=>by simp[bF]at h
     | true =>
      rcases hr bF with⟨hi,Ka⟩|rfl
      ·exact Wj hT hs' hq (hst (ua.2 hi) w1 Ka)
      ·exact h1 w1 λ_=>Ext.refl _
    ·obtain⟨dO,h3,h4,h5,h6⟩:=lR h2 hs' hn;exact Hr hT hQ hZ h3 h4 (h5.trans hd) h6
   | false =>
    rw[if_neg ai];refine zb hT hs' h' (λv w' hk=>?_) (λch w' hz=>hZ a w' ch hn hd hz);obtain⟨h1,h2⟩:=wB hk;refine⟨λhi=>h1 (ua.2 hi),?_⟩;obtain⟨dO,h3,h4,h5,h6⟩:=lR (wB h2).2 hs' hn;exact Hr hT hQ hZ h3 h4 (h5.trans hd) h6
  ·rw[if_neg (by simp[hw])];obtain⟨dO,h3,h4,h5,h6⟩:=lR h' hs' hn;exact Hr hT hQ hZ h3 h4 (h5.trans hd) h6
theorem lA{C:Cx}(hT:bK C.P C.T)(hm:C.P.follows .mixedOrders=true){id:Nat}{ops:Array Oper}{env:Env}{ds:List Deferred}{w:ae}{Q:ic}(Rel:ae->ae->Prop)(hR:∀a b c:ae,Rel a b->Rel b c->Rel a c)(xs ys π:au)
  (hok:yv C.T ops.toList xs ys π=true)
  (h:∀w1,Bt w w1->D7 C Rel ops.toList xs ys π env w1 (λaJ w'=>nG aJ C.live λe'=>Q .normal e' ds w') (λch w'=>Q (.panic ch) [] ds w')) :
  aP C (.region id ops true) env ds w Q:=by
 refine⟨λa hs hn hd=>?_⟩;simp only[yv,dM,decide_eq_true_eq]at hok;obtain⟨⟨⟨⟨⟨ht,hp⟩,hall⟩,hlen⟩,xR⟩,xP⟩:=hok;have hmem:∀i,i<ops.toList.length->i∈π:=λi hi=>by simpa using bj.1 hall i (by simpa using hi)
 have key:=h { w with drawn:=w.drawn+1 } ⟨rfl,rfl,rfl,rfl,aK _,λ_ _=>rfl⟩;let Q':Exit->Act->ae->Prop:=λe a' w'=>a'.tmps.size=C.n/\match e with
  | .panic ch=>Q (.panic ch) [] a'.defers w'
  | e=>∃aJ,Sat aJ a'.tmps/\Q e aJ a'.defers w'
 refine wpIn_mono (Q:=Q') ?_ (λe a' w' hq=>?_)
 ·refine wpIn_region_any hm ?_;have hg:Good C ops.toList xs ys Rel Q' (mS ops.toList π) a { w with drawn:=w.drawn+1 }:=by
   refine Hr hT (ds:=ds) (λaJ a' w' h1 h2 h3 h4=>?_) (λa' w' ch h1 h2 h3=>?_) hs hn hd key
   ·obtain⟨e',h5,h6⟩:=sI h4;exact⟨h2,e',λt v ht=>h1 t v (h5 t v ht),h3▸h6⟩
   ·exact⟨h1,h2▸h3⟩
  have hlt:∀i∈π,i<ops.toList.length:=λi hi=>by simpa using bj.1 xP i hi
  have:=Good.any (C:=C) (ops:=ops.toList) (xs:=xs) (ys:=ys) (Rel:=Rel) (Q:=Q') hR (λd v ch a w hq=>by
   obtain⟨h1,h2⟩:=hq;refine⟨?_,?_⟩
   ·cases d<;>simpa [Act.put]using h1
   ·cases d<;>exact h2) ops.size π (Array.replicate ops.size false) a { w with drawn:=w.drawn+1 } (by simp[hlen]) xR ai (λi hi=>?_) hlt (λi o ho hl=>?_) ht hp hg
  ·simpa using this
  ·have:i<ops.size:=by simpa using hi
   simp[Array.getD,this,hmem i hi]
  ·have:i<ops.size:=by simpa using(cW.1 ho).1
   simp[Array.getD,this]at hl
 ·obtain⟨h1,h2⟩:=hq;cases e with
  | panic ch=>exact⟨h1,[],Sat.nil _,h2⟩
  | _=>exact⟨h1,h2⟩
structure Sl where
 a:Option Addr
 len:Nat
 cap:Nat
abbrev Sl.v(s:Sl):ao:=.slice s.a s.len s.cap
structure By(w:ae)(s:Sl)(l:ad):Prop where
 len:s.len=l.length
 cells:Cells w s.a (l.map bv)
 cap:s.len<=s.cap
theorem Cells.sub(h:Cells w a l){i m b:Nat}(sz:Nat)(hm:b<=m)(hi:i<=b):Cells w (aU a i m sz) ((l.take (b*sz)).drop (i*sz)):=by
 by_cases hn:(l.take (b*sz)).drop (i*sz)=[]
 ·rw[hn];exact⟨λh=>absurd rfl h,λj v hj=>by simp at hj⟩
 have hl:l≠[]:=by intro e;subst e;simp at hn
 have hib:m≠i:=by
  intro e;have:b=i:=aa;subst this;exact hn (List.drop_eq_nil_of_le (by simp;omega))
 refine⟨λ_=>yV (h.1 hl),λj v hj=>?_⟩;rw[yT,yU (h.1 hl) hib,Nat.add_assoc];rw[List.getElem?_drop,AU]at hj;split at hj
 ·exact h.2 _ v hj
 ·cases hj
abbrev iv(x:Int):ao:=.int .i64 x
theorem di.bE(h:di w b l t){i:Nat}{u:ao}(hu:l[i]?=some u):w.cell? ⟨b,i,none⟩=some u:=(h.cell i).trans hu
structure Row(w:ae)(s:Sl)(e:TypeId)(sz:Nat)(xs:aD):Prop where
 len:xs.length=s.len*sz
 at_:(s.a=none/\s.len=0/\s.cap=0)\/∃b cur,s.a=some ⟨b,0,none⟩/\oU w b cur e/\s.len<=s.cap/\s.cap<=maxLen/\cur.size=s.cap*sz/\cur.toList.take (s.len*sz)=xs
theorem Row.nil(w:ae)(e:TypeId)(sz:Nat):Row w ⟨none,0,0⟩ e sz []:=⟨ai,.inl ⟨rfl,rfl,rfl⟩⟩
theorem Row.FR(h:di w b l e)(hl:l.length=n*sz)(hn:n<=maxLen):Row w ⟨some ⟨b,0,none⟩,n,n⟩ e sz l :=
 ⟨hl,.inr ⟨b,l.toArray,rfl,h.f,aK _,hn,by simpa using hl,by simp[<-hl]⟩⟩
theorem Row.cells{s:Sl}(h:Row w s e sz xs):Cells w s.a xs:=by
 rcases h.at_ with⟨h1,h2,h3⟩|⟨b,cur,h1,h2,h3,h4,h5,h6⟩
 ·have:xs=[]:=bL (by rw[h.len,h2];simp);subst this;exact⟨λh=>absurd rfl h,λj v hj=>by simp at hj⟩
 ·refine⟨λ_=>by rw[h1];rfl,λj v hj=>?_⟩;rw[h1];simp only[bD,bw,dU];rw[<-h6,AU]at hj;split at hj
  ·rw[h2.cell];simpa using hj
  ·cases hj
theorem Row.tw{s:Sl}(h:Row w s e sz xs)(hb:∀b,s.a=some ⟨b,0,none⟩->w'.heap[b]?=w.heap[b]?):Row w' s e sz xs:=by
 refine⟨h.len,?_⟩;rcases h.at_ with h1|⟨b,cur,h1,h2,r⟩
 ·exact .inl h1
 ·exact .inr ⟨b,cur,h1,h2.jC (hb b h1),r⟩
theorem Row.Vt{B:Nat}{s:Sl}(h:Row w s e sz xs)(hb:Tw B w w'):Row w' s e sz xs:=by
 refine⟨h.len,?_⟩;rcases h.at_ with h1|⟨b,cur,h1,h2,r⟩
 ·exact .inl h1
 ·obtain⟨fz,h2,h3⟩:=h2;exact .inr ⟨b,cur,h1,⟨fz,hb.bE _ _ _ _ h2,h3⟩,r⟩
theorem Row.cap{w:ae}{s:Sl}{e:TypeId}{sz:Nat}{xs:aD}(h:Row w s e sz xs):s.len<=s.cap:=by
 rcases h.at_ with⟨_,h2,_⟩|⟨_,_,_,_,h3,_⟩
 ·omega
 ·exact h3
theorem Row.lt{w:ae}{s:Sl}{e:TypeId}{sz:Nat}{xs:aD}(h:Row w s e sz xs):s.a≠none->bD s.a<w.heap.size:=by
 intro hn;rcases h.at_ with⟨h1,_⟩|⟨b,cur,h1,h2,r⟩
 ·exact absurd h1 hn
 ·rw[h1];exact h2.lt
structure Bu(w:ae)(s:Sl)(w':ae)(s':Sl):Prop where
 os:w'.os=w.os
 tape:w'.tape=w.tape
 output:w'.output=w.output
 size:w.heap.size<=w'.heap.size
 block:∀c,c<w.heap.size->(s.a=none\/c≠bD s.a)->w'.heap[c]?=w.heap[c]?
 own:s'.a=none\/(s.a≠none/\bD s'.a=bD s.a)\/w.heap.size<=bD s'.a
theorem Bu.refl(w:ae)(s:Sl):Bu w s w s:=by
 refine⟨rfl,rfl,rfl,aK _,λ_ _ _=>rfl,?_⟩;cases h:s.a with
 | none=>exact .inl rfl
 | some p=>exact .inr (.inl ⟨ai,rfl⟩)
theorem af1{ty:TypeId}{i:TypeInfo}(ht:P.underlying t=some (.slice e))(hi:P.info? e=some i){s x:Sl}(hx:x.len=0)(hle:s.len<=s.cap) :
  (Builtin.append_ #[t,t] ty #[s.v,x.v]).run P w=.ok s.v w:=by
 obtain⟨sa,sl,sc⟩:=s;obtain⟨xa,xl,xc⟩:=x;simp only at hx hle;subst hx;cases sa<;>cases xa<;>simp[Builtin.append_,run_underlying ht,sizeOf,typeInfo,hi,Builtin.lenOf,Builtin.firstCells,loadCells,loadCellsFrom,hle,storeCells]
theorem af0(w:ae)(t ty e:TypeId)(i:TypeInfo)(ht:P.underlying t=some (.slice e))(hi:P.info? e=some i)
  (g sLen Mn:Nat) (cur:Array ao) (fz:Nat×Nat) (hg:w.heap[g]?=some (.cells cur e fz)) (hok:Bx fz cur.size)
  (a:Addr) (m c:Nat) (news:aD) (hl:news.length=m*i.size) (hnews:∀j u,news[j]?=some u->w.cell? (a.add j)=some u) (h1:∀u∈news,u.oneCell'=true)
  (hroom:sLen+m<=Mn) (hfit:sLen*i.size+news.length<=cur.size) :
  (Builtin.append_ #[t,t] ty #[.slice (some ⟨g,0,none⟩) sLen Mn,.slice (some a) m c]).run P w =
   .ok (.slice (some ⟨g,0,none⟩) (sLen+m) Mn) (w.setRow g (cur.toList.take (sLen*i.size)++news++cur.toList.drop (sLen*i.size+news.length)).toArray):=by
 have hf:=run_firstCells_some (P:=P) w i.size m a m c news hl hnews;have hst:=GR P g (sLen*i.size) e fz news 0 cur w hg hok (by simpa using hfit) h1;simp only[Nat.add_zero]at hst;simp[Builtin.append_,run_underlying ht,sizeOf,typeInfo,hi,Builtin.lenOf,hroom,hf,Addr.add_lit,hst]
theorem Xx(hT:bK P T){t ty e:TypeId}{d de:TD}(hd:T[t]?=some d)(hu:d.under=.slice e)(hde:T[e]?=some de){z:ao}(hz:de.zero=some z)(hzs:z.cells.size=de.size)(hsz:0<de.size)
  {w:ae} {s x:Sl} {xs ys:aD} (hr:Row w s e de.size xs) (hx:Cells w x.a ys) (hxl:ys.length=x.len*de.size) (h1:∀u∈ys,u.oneCell'=true) (hb:(s.len+x.len)*de.bytes<=140737488355328) (hm:s.len+x.len<=4611686018427387904)
  {k:ao->ae->Prop} (hk:∀s' w',Row w' s' e de.size (xs++ys)->s'.len=s.len+x.len->Bu w s w' s'->k s'.v w'):bo P (Builtin.append_ #[t,t] ty #[s.v,x.v]) w k:=by
 have tI:=hT t d hd;have sd:=hT e de hde;obtain⟨i,hi,lF,oe,hi3⟩:=sd.info;have ht:P.underlying t=some (.slice e):=by
  obtain⟨d0,q1,q2⟩:=tI.under;rw[hu]at q2;cases d0<;>first|(simp_all[c8];done)|(simp only[c8]at q2;split at q2<;>cases q2)
 by_cases hn:x.len=0
 ·have pD:ys=[]:=bL (by rw[hxl,hn];simp);subst pD;have hle:s.len<=s.cap:=by
   rcases hr.at_ with⟨_,h2,h3⟩|⟨_,_,_,_,h3,_⟩
   ·omega
   ·exact h3
  refine .of (v:=s.v) (w':=w) ?_ (hk s w (by simpa using hr) aa (Bu.refl w s));exact af1 ht hi hn hle
 ·have pD:ys≠[]:=by
   intro e;subst e;have:0<x.len*de.size:=Nat.mul_pos aa hsz;simp at hxl;omega
  have hpl:=hx.1 pD;have hnews:∀j v,ys[j]?=some v->w.cell? ((⟨bD x.a,bw x.a,none⟩:Addr).add j)=some v:=λj v hj=>by rw[addr_add];exact hx.2 j v hj
  have sv:x.v=.slice (some ⟨bD x.a,bw x.a,none⟩) x.len x.cap:=by
   show Value.slice x.a x.len x.cap=_;conv=>lhs;rw[hpl]
  have mC:i.size=de.size:=lF;have vf:i.bytes=de.bytes:=oe;rw[sv];have mo:∀old,grownCap w (s.len+x.len) old e<=maxLen:=λold=>grownCap_le_maxLen w _ old e (by simp only[maxLen];omega);have kT:∀old,s.len+x.len<=grownCap w (s.len+x.len) old e:=λold=>grownCap_ge w _ old e;have hlen:(xs++ys).length=(s.len+x.len)*de.size:=by rw[aq,hr.len,hxl,uc]
  have fresh:∀old,k (.slice (some ⟨w.heap.size,0,none⟩) (s.len+x.len) (grownCap w (s.len+x.len) old e))
    (w.drew.alloc (.cells (xs.toArray++ys.toArray++Builtin.zeroCells z.cells (grownCap w (s.len+x.len) old e-(s.len+x.len))) e)):=by
   intro old
   refine hk ⟨some ⟨w.heap.size,0,none⟩,s.len+x.len,grownCap w (s.len+x.len) old e⟩ _ ⟨hlen,.inr ⟨w.heap.size,_,rfl,⟨(0,0),heap_alloc_new w.drew _,.zero _⟩,kT old,mo old,?_,?_⟩⟩ rfl
    ⟨rfl,rfl,rfl,ai,λc hc _=>heap_alloc_old w.drew _ c hc,.inr (.inr (aK _))⟩
   ·simp only[Array.size_append,vT,size_zeroCells,hzs,hr.len,hxl,<-uc];congr 1;have:=kT old;omega
   ·simp only[Array.toList_append,bJ];rw[<-bJ,<-hlen];exact pX
  rcases hr.at_ with⟨h1',h2,h3⟩|⟨b,cur,h1',h2,h3,h4,h5,h6⟩
  ·have pC:xs=[]:=bL (by rw[hr.len,h2];simp);subst pC;have gK:x.len*de.bytes<=140737488355328:=by rw[h2,dU]at hb;exact hb
   have dS:=run_append_nil (P:=P) w t ty e i z ht hi (hi3.trans hz) ⟨bD x.a,bw x.a,none⟩ x.len x.cap ys (by rw[hxl,mC]) hnews aa aa (by rw[vf];omega);have hf:=fresh 0;simp only[h2,dU,Array.empty_append]at hf;have mB:s.v=.slice none 0 0:=by show Value.slice s.a s.len s.cap=_;rw[h1',h2,h3]
   rw[mB];exact .of dS hf
  ·have mB:s.v=.slice (some ⟨b,0,none⟩) s.len s.cap:=by show Value.slice s.a s.len s.cap=_;rw[h1']
   rw[mB];by_cases hroom:s.len+x.len<=s.cap
   ·have hfit:s.len*i.size+ys.length<=cur.size:=by rw[hxl,h5,mC,<-uc];exact Nat.mul_le_mul_right _ hroom
    obtain⟨fz,h2,hok⟩:=h2;have dS:=af0 (P:=P) w t ty e i ht hi b s.len s.cap cur fz h2 hok ⟨bD x.a,bw x.a,none⟩ x.len x.cap ys (by rw[hxl,mC]) hnews h1 hroom hfit;refine .of dS (hk ⟨some ⟨b,0,none⟩,s.len+x.len,s.cap⟩ _ ⟨hlen,.inr ⟨b,_,rfl,⟨fz,setRow_heap w b cur _ e _ h2,?_⟩,hroom,h4,?_,?_⟩⟩ rfl ⟨rfl,rfl,rfl,ai,λc _ hc=>setRow_other w b c _ ?_,.inr (.inl ⟨by rw[h1'];simp,by rw[h1']⟩)⟩)
    ·intro j hj;refine hok j ?_;simp only[vT,aq,bb,bd,ud]at hj;omega
    ·simp only[vT,aq,bb,bd,ud];omega
    ·rw[mC,h6,<-hlen];exact pX
    ·rcases hc with hc|hc
     ·rw[h1']at hc;cases hc
     ·rw[h1']at hc;exact hc
   ·have holds:∀j v,xs[j]?=some v->w.cell? ((⟨b,0,none⟩:Addr).add j)=some v:=λj v hj=>by
     have:=hr.cells.2 j v hj;rw[h1']at this;rw[addr_add];exact this
    have dS:=run_append_grow (P:=P) w t ty e i z ht hi (hi3.trans hz) ⟨b,0,none⟩ s.len s.cap xs (by rw[hr.len,mC]) holds ⟨bD x.a,bw x.a,none⟩ x.len x.cap ys (by rw[hxl,mC]) hnews aa aa (growslice_fits aa (by rw[vf];exact hb));exact .of dS (fresh s.cap)
theorem di.cells(h:di w b l t):Cells w (some ⟨b,0,none⟩) l:=⟨λ_=>rfl,λj v hj=>by simp only[bD,bw,dU];rw[h.cell];exact hj⟩
theorem GY(hT:bK P T){t e:TypeId}{d de:TD}(hd:T[t]?=some d)(hu:d.under=.slice e)(hde:T[e]?=some de){z:ao}(hz:de.zero=some z)(hzs:z.cells=#[z])(hsz:de.size=1)
  {w:ae} {kl kc:IntKind} {n c:Int} (hn:0<=n/\n<=c) (hb:(de.bytes:Int)*c<=281474976710656) (hm:c<=4611686018427387904)
  {k:ao->ae->Prop} (hk:∀w' b,qf w b (List.replicate c.toNat z) e w'->k (.slice (some ⟨b,0,none⟩) n.toNat c.toNat) w'):bo P (Instr.makeSlice t (.int kl n) (.int kc c)) w k:=by
 have tI:=hT t d hd;have sd:=hT e de hde;obtain⟨i,hi,lF,oe,hi3⟩:=sd.info;have ht:P.underlying t=some (.slice e):=by
  obtain⟨d0,q1,q2⟩:=tI.under;rw[hu]at q2;cases d0<;>first|(simp_all[c8];done)|(simp only[c8]at q2;split at q2<;>cases q2)
 have dS:=run_make (P:=P) w t e i z ht hi (hi3.trans hz) kl kc n c hn.1 hn.2 (by rw[oe];exact hb) aa;refine .of dS (hk _ _ ⟨rfl,?_⟩);congr 2;apply Array.ext
 ·simp[size_madeCells,lF,hsz]
 ·intro j h1 h2;simp[madeCells,hzs,Nat.mod_one]
def l8(B:Nat)(w w':ae):Prop:=∀(j:Nat) (o:Obj),B<=j->w.heap[j]?=some o->(∀c t f,o≠.cells c t f)->w'.heap[j]?=some o
theorem l8.refl(B:Nat)(w:ae):l8 B w w:=λ_ _ _ h _=>h
structure Eh(P:Program)(gf:Nat)(lb:aD)(xs:List aD)(S:ae->Prop):Prop where
 enters:Enters P gf
 out:∀(l:Nat) (W:ae) (J:Nat->ae->Prop) (Jx:ae->Prop),(∀k W,J k W->S W)->(∀k W W',J k W->Ext W W'->J k W')->(∀W W',Jx W->Ext W W'->Jx W') ->
  (∀k x W1,xs[k]?=some x->J k W1->BE P l x.toArray W1 λb W2=>(b=true->J (k+1) W2)/\(b=false->Jx W2))->J 0 W ->
  eD P gf (.func (.yield l) #[] #[]::lb).toArray W λ_ W'=>J xs.length W'\/Jx W'
def AO:au->aD->Env->Env
 | p::ps,v::vs,env=>AO ps vs ((p,v)::env)
 | _,_,env=>env
theorem S9{n:Nat}:∀ {ps:au} {vs:aD} {env:Env} {tm:Array ao},Sat env tm->tm.size=n->(∀p∈ps,p<n) ->
  Sat (AO ps vs env) ((ps.zip vs).foldl (λt p=>t.setIfInBounds p.1 p.2) tm)/\((ps.zip vs).foldl (λt p=>t.setIfInBounds p.1 p.2) tm).size=n
 | [],vs,env,tm,hs,hn,_=>by cases vs<;>exact⟨hs,hn⟩
 | p::ps,[],env,tm,hs,hn,_=>⟨hs,hn⟩
 | p::ps,v::vs,env,tm,hs,hn,hp=>by
  simp only[AO,List.zip_cons_cons,List.foldl_cons];exact S9 (hs.put (by rw[hn];exact hp p ai) v) (by simpa using hn) (λq hq=>hp q (by simp[hq]))
def Mf(B:Nat)(W:ae)(I:ae->Prop)(Ix:Code->ae->Prop):ic:=λe _ _ W'=>match e with
 | .normal=>l8 B W W'/\I W'
 | .ret=>l8 B W W'/\Ix .ret W'
 | .exit id=>l8 B W W'/\Ix (.exit id) W'
 | _=>False
theorem TV(hT:bK C.P C.T)(hro:C.r=none){g:Operand}{ps:Array Tmp}{assign body:Code}{env:Env}{ds:List Deferred}{w:ae}{Q:ic}{gf:Nat}{lb:aD}
  (hg:cA env g λv=>v=.func (.func gf) #[] lb.toArray) {xs:List aD} {S:ae->Prop} (hit:Eh C.P gf lb xs S) (hps:∀x∈xs,x.length=ps.size) (hpn:(ps.toList.all λp=>decide (p<C.n))=true)
  (I:Nat->ae->Prop) (Ix:Code->ae->Prop) (hI:∀k W W',I k W->Tw w.heap.size W W'->I k W') (hIx:∀c W W',Ix c W->Tw w.heap.size W W'->Ix c W') (hS:∀k W,I k W->S W) (h0:I 0 w)
  (xY:∀l k x W,xs[k]?=some x->I k W->ia { C with r:=some l } assign (AO ps.toList x env) [] W λe zO ds1 W1=>(match e with
   | .normal=>ds1=[]/\l8 w.heap.size W W1/\∀W2,Tw w.heap.size W1 W2->ia { C with r:=some l } body zO [] W2 (Mf w.heap.size W2 (I (k+1)) Ix)
   | _=>False))
  (hdone:∀D W,w.heap.size<=D->W.heap[D]?=some (.deferred (some []))->I xs.length W->Q .normal env ({ target:=.collected D,args:=#[] }::ds) W)
  (hstop:∀D c W,w.heap.size<=D->W.heap[D]?=some (.deferred (some []))->Ix c W->ia C c env ({ target:=.collected D,args:=#[] }::ds) W Q) :
  aP C (.rangeFunc g ps assign body) env ds w Q:=by
 refine⟨λa hs hn hd=>?_⟩;have hgv:=dm hg hs;rw[hro];refine wpIn_rangeFunc ?_;intro fn _;obtain⟨rec,nn⟩:∃rec:LoopState->Option Code->Loop,rec=λst pe=>{ state:=st,pending:=pe,fn,tmps:=a.tmps,params:=ps,assign,body,defers:=w.heap.size }:=⟨_,rfl⟩
 obtain⟨W1,E9⟩:∃W1,(w.alloc (.deferred (some []))).alloc (.loop (rec .ready none))=W1:=⟨_,rfl⟩
 have E4:W1.heap[w.heap.size+1]?=some (.loop (rec .ready none)):=by
  rw[<-E9];have:=heap_alloc_new (w.alloc (.deferred (some []))) (.loop (rec .ready none));rwa [World.size_alloc]at this
 have hK1:W1.heap[w.heap.size]?=some (.deferred (some [])):=by
  rw[<-E9];exact(Below.heap_alloc _ _ _ ai).trans (heap_alloc_new w _)
 have hE1:Ext w W1:=by rw[<-E9];exact((Below.refl _ w).alloc (aK _) _).alloc ai _
 refine⟨w.heap.size+1,[{ target:=.collected w.heap.size,args:=#[] }],W1,{ target:=.fn (.func gf) lb.toArray,args:=#[.func (.yield (w.heap.size+1)) #[] #[]] },W1,gf,
  (.func (.yield (w.heap.size+1)) #[] #[]::lb).toArray,W1,?_,?_,λ_ _=>trivial,?_,λh=>by simp[Fr,Fence.wide]at h,?_⟩
 ·rw[<-E9,nn];exact run_enterLoop_outer _ _ _ _ _
 ·simp only[resolve,hgv];simp[Deferred.ofValue,go_sem]
 ·have:=hit.enters (.func (.yield (w.heap.size+1)) #[] #[]::lb).toArray W1;simp only[invoke];rw[<-this];simp
 ·have nd:∀r c t f,Obj.loop r≠.cells c t f:=λ_ _ _ _=>nofun
  have Sk:∀r c t f,Obj.deferred r≠.cells c t f:=λ_ _ _ _=>nofun
  have Hh:∀ {W:ae} {r:Loop} (o:Obj),W.heap[w.heap.size+1]?=some (.loop r)->Tw w.heap.size W (W.putObj (w.heap.size+1) o):=λo h=>(Vs h (nd _)).mono aa;have De:∀ {W:ae} {o:Obj},W.heap[w.heap.size+1]?=some o->w.heap.size+1<W.heap.size:=λh=>(jG.1 h).1
  refine BP.2 (Calls.lM (eD.calls hit.enters (hit.out (w.heap.size+1) W1
   (λk W=>I k W/\W.heap[w.heap.size+1]?=some (.loop (rec .ready none))/\W.heap[w.heap.size]?=some (.deferred (some [])))
   (λW=>∃c,Ix c W/\W.heap[w.heap.size+1]?=some (.loop (rec .done (some c)))/\W.heap[w.heap.size]?=some (.deferred (some [])))
   (λk W h=>hS k W h.1) ?_ ?_ ?_ ⟨hI _ _ _ h0 (hE1.tw (aK _)),E4,hK1⟩)) ?_)
  ·rintro k W W'⟨h1,h2,h3⟩he;have:=De h2;exact⟨hI _ _ _ h1 (he.tw aa),(he.block _ aa).trans h2,(he.block _ aa).trans h3⟩
  ·rintro W W'⟨c,h1,h2,h3⟩he;have:=De h2;exact⟨c,hIx _ _ _ h1 (he.tw aa),(he.block _ aa).trans h2,(he.block _ aa).trans h3⟩
  ·rintro k x W hx⟨hi,hl,hk⟩;have hlt:=De hl;have hxm:x∈xs:=fH hx;have hy:=run_yield (P:=C.P) (args:=x.toArray) hl (by rw[nn];simpa using hps x hxm);rw[nn]at hy;have abC:(ps.zip x.toArray).foldl (λtmps (t,a)=>tmps.setIfInBounds t a) a.tmps=(ps.toList.zip x).foldl (λt p=>t.setIfInBounds p.1 p.2) a.tmps:=by
    rw[<-Array.foldl_toList,Array.toList_zip]
   obtain⟨hs1,vo⟩:=S9 (n:=C.n) (ps:=ps.toList) (vs:=x) hs hn (λp hp=>by simpa using bj.1 hpn p hp);refine⟨fn,_,assign,body,hy,?_⟩;simp only[abC];refine roundIn_of_wpIn (F:=Fr none) trivial ?_;have hv:=(sY (C:={ C with r:=some (w.heap.size+1) }) hT (xY (w.heap.size+1) k x W hx hi)).out ⟨_,[]⟩ hs1 vo rfl;refine wpIn_mono hv ?_;rintro e a1 Wa⟨hn2,zO,dj,hq⟩;cases e with
   | normal =>
    obtain⟨hd1,QS,hb⟩:=hq;have qE:=QS _ _ aa hl (nd _);have xN:=QS _ _ aa hk (Sk _);have aa9:=De qE;refine⟨_,run_beginRound qE (by rw[nn]),?_⟩;have hl2:(Wa.putObj (w.heap.size+1) (.loop { rec .ready none with state:=.busy })).heap[w.heap.size+1]?=some (.loop { rec .ready none with state:=.busy }):=World.putObj_heap_same aa9;have iM:(Wa.putObj (w.heap.size+1) (.loop { rec .ready none with state:=.busy })).heap[w.heap.size]?=some (.deferred (some [])):=(World.putObj_heap_other aa).trans xN;have hb:=(sY (C:={ C with r:=some (w.heap.size+1) }) hT (hb _ (Hh (.loop { rec .ready none with state:=.busy }) qE))).out a1 dj hn2 hd1
    have fin:∀(jump:Option Code) (W3:ae),l8 w.heap.size (Wa.putObj (w.heap.size+1) (.loop { rec .ready none with state:=.busy })) W3 ->
      (Instr.endRound (w.heap.size+1) jump).run C.P W3=.ok (.bool jump.isNone) (W3.putObj (w.heap.size+1) (.loop (rec (if jump.isNone then .ready else .done) jump))) /\
      Tw w.heap.size W3 (W3.putObj (w.heap.size+1) (.loop (rec (if jump.isNone then .ready else .done) jump))) /\
      (W3.putObj (w.heap.size+1) (.loop (rec (if jump.isNone then .ready else .done) jump))).heap[w.heap.size+1]?=some (.loop (rec (if jump.isNone then .ready else .done) jump)) /\
      (W3.putObj (w.heap.size+1) (.loop (rec (if jump.isNone then .ready else .done) jump))).heap[w.heap.size]?=some (.deferred (some [])):=λjump W3 gU=>by
     have qD:=gU _ _ aa hl2 (nd _);have h1:=run_endRound (P:=C.P) jump qD;have h2:=gU _ _ aa iM (Sk _);refine⟨?_,Hh _ qD,World.putObj_heap_same (De qD),(World.putObj_heap_other aa).trans h2⟩;rw[nn]at h1 |-;exact h1
    refine wpIn_mono hb ?_;rintro e a3 W3⟨_,_,_,hp⟩;cases e with
    | normal =>
     obtain⟨gU,hi3⟩:=hp;obtain⟨hr,ht,hl4,pz⟩:=fin none W3 gU;exact⟨_,_,hr,true,rfl,λ_=>⟨hI _ _ _ hi3 ht,hl4,pz⟩,λh=>by cases h⟩
    | ret =>
     obtain⟨gU,hi3⟩:=hp;obtain⟨hr,ht,hl4,pz⟩:=fin (some .ret) W3 gU;exact⟨_,_,hr,false,rfl,λh=>(by cases h),λ_=>⟨.ret,hIx _ _ _ hi3 ht,hl4,pz⟩⟩
    | exit id =>
     obtain⟨gU,hi3⟩:=hp;obtain⟨hr,ht,hl4,pz⟩:=fin (some (.exit id)) W3 gU;exact⟨_,_,hr,false,rfl,λh=>(by cases h),λ_=>⟨.exit id,hIx _ _ _ hi3 ht,hl4,pz⟩⟩
    | goto t=>exact hp.elim
    | panic ch=>exact hp.elim
    | outgrown=>exact hp.elim
   | _=>exact hq.elim
  ·rintro e W2⟨v,rfl,(⟨hi,hl,hk⟩|⟨c,hi,hl,hk⟩)⟩
   ·refine⟨none,_,by have:=run_endLoop (P:=C.P) hl (by rw[nn];simp);rw[nn]at this;exact this,hn,env,hs,?_⟩;have:=hdone w.heap.size (W2.putObj (w.heap.size+1) (.loop { rec .ready none with state:=.exhausted })) (aK _) ((World.putObj_heap_other aa).trans hk) (hI _ _ _ hi (Hh _ hl));rw[nn]at this;simpa [hd]using this
   ·refine⟨some c,_,by have:=run_endLoop (P:=C.P) hl (by rw[nn];simp);rw[nn]at this;exact this,?_⟩;have:=hstop w.heap.size c (W2.putObj (w.heap.size+1) (.loop { rec .done (some c)with state:=.exhausted })) (aK _) ((World.putObj_heap_other aa).trans hk) (hIx _ _ _ hi (Hh _ hl));rw[nn]at this;have key:=(sY hT this).out { a with defers:=[{ target:=.collected w.heap.size,args:=#[] }]++a.defers } hs hn (by simp[hd]);rw[hro]at key;exact key
theorem aP.cut{Q:ic}(i:Nat)(M:S->Env)(I:S->ae->Prop)
  (h:aP C c env ds w (λe aJ ds' w'=>match e with
   | .exit j=>(match Nat.beq j i with
    | true=>ds'=ds/\∃s,p8 aJ (M s)/\I s w'
    | false=>Q (.exit j) aJ ds' w')
   | e=>Q e aJ ds' w'))
  (k:∀s w',I s w'->Q (.exit i) (M s) ds w'):aP C c env ds w Q:=by
 refine⟨λa hs hn hd=>wpIn_mono (h.out a hs hn hd) λe a' w' ⟨h1,aJ,h2,h3⟩=>?_⟩;cases e with
 | exit j =>
  simp only at h3;cases hj:Nat.beq j i with
  | true =>
   simp only[hj]at h3;obtain⟨jT,s,h4,h5⟩:=h3;have:=pN hj;subst this;exact⟨h1,M s,λt v ht=>h2 t v (sT h4 t v ht),by rw[jT];exact k s w' h5⟩
  | false =>
   simp only[hj]at h3;exact⟨h1,aJ,h2,h3⟩
 | _=>exact⟨h1,aJ,h2,h3⟩
inductive aN where
 | ax (b:Nat) (l:aD) (t:TypeId)
 | row (s:Sl) (e:TypeId) (sz:Nat) (xs:aD)
 | obj (b:Nat) (o:Obj)
abbrev bU:=List aN
def aN.at_:aN->Option Nat
 | .ax b _ _=>some b
 | .row s _ _ _=>s.a.map (·.block)
 | .obj b _=>some b
def aN.laid(w:ae):aN->Prop
 | .ax b l t=>di w b l t
 | .row s e sz xs=>Row w s e sz xs
 | .obj b o=>w.heap[b]?=some o
theorem aN.lt{w:ae}{r:aN}(h:r.laid w){b:Nat}(hb:r.at_=some b):b<w.heap.size:=by
 cases r with
 | ax b' l t=>cases hb;exact di.lt h
 | row s e sz xs =>
  simp only[aN.at_,il]at hb;obtain⟨p,hp,rfl⟩:=hb;have:=Row.lt h (by rw[hp];simp);rw[hp]at this;exact this
 | obj b' o=>cases hb;exact(jG.1 h).1
theorem aN.jC{r:aN}(h:r.laid w)(hk:∀b,r.at_=some b->w'.heap[b]?=w.heap[b]?):r.laid w':=by
 cases r with
 | ax b' l t=>exact(hk b' rfl).trans h
 | row s e sz xs=>exact Row.tw h λb hb=>hk b (by simp[aN.at_,hb])
 | obj b' o=>exact(hk b' rfl).trans h
structure Sub(V W:ae):Prop where
 bE:∀(b:Nat) (c:Array ao) (t:TypeId) (f:Nat×Nat),V.heap[b]?=some (Obj.cells c t f)->W.heap[b]?=some (Obj.cells c t f)
theorem Sub.refl(V:ae):Sub V V:=⟨λ_ _ _ _ h=>h⟩
theorem Sub.trans{A B C:ae}(h:Sub A B)(k:Sub B C):Sub A C:=⟨λb c t f hb=>k.bE b c t f (h.bE b c t f hb)⟩
theorem Sub.ext{A B C:ae}(h:Sub A B)(k:Ext B C):Sub A C:=⟨λb c t f hb=>by
 have:=h.bE b c t f hb;rw[k.block b (jG.1 this).1];exact this⟩
theorem Sub.cell{V W:ae}(h:Sub V W){a:Addr}{v:ao}(hc:V.cell? a=some v):W.cell? a=some v:=by
 have:W.heap[a.block]?=V.heap[a.block]?:=by
  unfold World.cell? at hc;split at hc
  ·rename_i c t f hb;rw[hb];exact h.bE _ _ _ _ hb
  ·cases hc
 rw[World.cell?_of_block this];exact hc
theorem Cells.fa{V W:ae}(h:Cells V a l)(k:Sub V W):Cells W a l:=⟨h.1,λj v hj=>k.cell (h.2 j v hj)⟩
def FT(V:ae)(b:Nat):Prop:=∀(c:Array ao) (t:TypeId) (f:Nat×Nat),V.heap[b]?≠some (Obj.cells c t f)
def aN.off(r s:aN):Prop:=∀b,r.at_=some b->s.at_≠some b
structure Rel(w0 V0:ae)(own:List aN)(V w:ae):Prop where
 base:Ext w0 w
 sub:Sub V0 V
 old:∀b,b<w0.heap.size->FT V0 b->FT V b
 laid:∀r∈own,r.laid w
 new:∀r∈own,∀b,r.at_=some b->w0.heap.size<=b
 hid:∀r∈own,∀b,r.at_=some b->FT V b
 apart:own.Pairwise aN.off
 data:Sub V w
theorem Rel.start{V:ae}(h:Sub V w):Rel w V [] V w:=⟨Ext.refl _,Sub.refl _,λ_ _ h=>h,ai,ai,ai,List.Pairwise.nil,h⟩
section
variable{w0 V0 V w:ae}{own:List aN}
theorem Rel.zL(H:Rel w0 V0 own V w){a:Addr}{v:ao}(h:V.cell? a=some v):w.cell? a=some v:=H.data.cell h
theorem Rel.ext(H:Rel w0 V0 own V w){w':ae}(he:Ext w w'):Rel w0 V0 own V w' :=
 ⟨H.base.trans he,H.sub,H.old,λr hr=>aN.jC (H.laid r hr) λb hb=>he.block b (aN.lt (H.laid r hr) hb),H.new,H.hid,H.apart,H.data.ext he⟩
theorem Rel.call(H:Rel w0 V0 own V w){own':List aN}{V' w':ae}(K:Rel w V own' V' w'):Rel w0 V0 (own'++own) V' w':=by
 refine⟨H.base.trans K.base,H.sub.trans K.sub,λb hb hn=>K.old b (Tg hb H.base.size) (H.old b hb hn),λr hr=>?_,λr hr b hb=>?_,λr hr b hb=>?_,?_,K.data⟩
 ·rcases cq.1 hr with hr|hr
  ·exact K.laid r hr
  ·exact aN.jC (H.laid r hr) λb hb=>K.base.block b (aN.lt (H.laid r hr) hb)
 ·rcases cq.1 hr with hr|hr
  ·exact sJ H.base.size (K.new r hr b hb)
  ·exact H.new r hr b hb
 ·rcases cq.1 hr with hr|hr
  ·exact K.hid r hr b hb
  ·exact K.old b (aN.lt (H.laid r hr) hb) (H.hid r hr b hb)
 ·refine List.pairwise_append.2 ⟨K.apart,H.apart,λr hr s hs b hb he=>?_⟩;have h1:=K.new r hr b hb;have h2:=aN.lt (H.laid s hs) he;omega
theorem Rel.az(H:Rel w0 V0 own V w){V' w':ae}(K:Rel w V [] V' w'):Rel w0 V0 own V' w':=H.call K
theorem Rel.sl(H:Rel w0 V0 own V w){own':List aN}(h:own'.Sublist own):Rel w0 V0 own' V w :=
 ⟨H.base,H.sub,H.old,λr hr=>H.laid r (h.subset hr),λr hr=>H.new r (h.subset hr),λr hr=>H.hid r (h.subset hr),H.apart.sublist h,H.data⟩
theorem Rel.w9{r:aN}(H:Rel w0 V0 (r::own) V w):Rel w0 V0 own V w:=H.sl (Gh _ _)
theorem Rel.swap{r s:aN}(H:Rel w0 V0 (r::s::own) V w):Rel w0 V0 (s::r::own) V w:=by
 have hm:∀x,x∈s::r::own->x∈r::s::own:=λx hx=>by simp only[bB]at hx |-;rcases hx with h|h|h<;>simp[h]
 refine⟨H.base,H.sub,H.old,λx hx=>H.laid x (hm x hx),λx hx=>H.new x (hm x hx),λx hx=>H.hid x (hm x hx),?_,H.data⟩;have h:=H.apart;simp only[lS,bB,forall_eq_or_imp]at h |-;obtain⟨⟨h1,h2⟩,h3,h4⟩:=h;exact⟨⟨λb hb hc=>h1 b hc hb,h3⟩,h2,h4⟩
theorem Rel.more(H:Rel w0 V0 own V w){r:aN}{w':ae}(he:Ext w w')(hr:r.laid w')(hn:∀b,r.at_=some b->w.heap.size<=b):Rel w0 V0 (r::own) V w':=by
 have H':=H.ext he;refine⟨H'.base,H'.sub,H'.old,?_,?_,?_,?_,H'.data⟩
 ·intro x hx;rcases bB.1 hx with rfl|hx
  ·exact hr
  ·exact H'.laid x hx
 ·intro x hx b hb;rcases bB.1 hx with rfl|hx
  ·exact sJ H.base.size (hn b hb)
  ·exact H'.new x hx b hb
 ·intro x hx b hb;rcases bB.1 hx with rfl|hx
  ·intro c t f hc;have h1:=H.data.bE b c t f hc;have h2:=(jG.1 h1).1;have h3:=hn b hb;omega
  ·exact H'.hid x hx b hb
 ·refine lS.2 ⟨λs hs b hb hc=>?_,H'.apart⟩;have h1:=hn b hb;have h2:=aN.lt (H.laid s hs) hc;omega
theorem Rel.yr(H:Rel w0 V0 own V w){b:Nat}{l:aD}{t:TypeId}{w':ae}(h:qf w b l t w'):Rel w0 V0 (.ax b l t::own) V w' :=
 H.more h.ext h.ax λc hc=>by cases hc;rw[h.num];exact aK _
theorem Rel.nw(H:Rel w0 V0 own V w){l:aD}{t:TypeId}{G:ae->Nat->Prop}(k:∀w' b,Rel w0 V0 (.ax b l t::own) V w'->G w' b):∀w' b,qf w b l t w'->G w' b :=
 λw' b h=>k w' b (H.yr h)
theorem Rel.pH(H:Rel w0 V0 own V w){l:aD}{t:TypeId}{G:ae->Nat->Prop}(k:∀w' b,Rel w0 V0 (.ax b l t::own) V w'->G w' b):∀w' b,qf w b l t w'->Ext w w'/\G w' b :=
 λw' b h=>⟨h.ext,k w' b (H.yr h)⟩
theorem Rel.nA(H:Rel w0 V0 own V w){l:aD}{t:TypeId}{G:ae->Nat->Prop}{A:Prop}(k:∀w' b,Rel w0 V0 (.ax b l t::own) V w'->G w' b)(e:(∀w' b,Rel w0 V0 (.ax b l t::own) V w'->G w' b)->A:=by first|exact Rel.pH H|exact Rel.nw H):A:=e k
theorem Rel.cb(H:Rel w0 V0 own V w)(e:TypeId)(sz:Nat):Rel w0 V0 (.row ⟨none,0,0⟩ e sz []::own) V w :=
 H.more (Ext.refl _) (Row.nil _ _ _) λb hb=>by simp[aN.at_]at hb
theorem Rel.fA(H:Rel w0 V0 (.ax b l e::own) V w)(hl:l.length=n*sz)(hn:n<=maxLen):Rel w0 V0 (.row ⟨some ⟨b,0,none⟩,n,n⟩ e sz l::own) V w:=by
 have hb:di w b l e:=H.laid (.ax b l e) ai;have hr:Row w ⟨some ⟨b,0,none⟩,n,n⟩ e sz l:=Row.FR hb hl hn;refine⟨H.base,H.sub,H.old,?_,?_,?_,?_,H.data⟩
 ·intro x hx;rcases bB.1 hx with rfl|hx
  ·exact hr
  ·exact H.laid x (by simp[hx])
 ·intro x hx c hc;rcases bB.1 hx with rfl|hx
  ·exact H.new (.ax b l e) ai c hc
  ·exact H.new x (by simp[hx]) c hc
 ·intro x hx c hc;rcases bB.1 hx with rfl|hx
  ·exact H.hid (.ax b l e) ai c hc
  ·exact H.hid x (by simp[hx]) c hc
 ·have:=lS.1 H.apart;exact lS.2 ⟨λs hs c hc=>this.1 s hs c hc,this.2⟩
theorem Rel.put(H:Rel w0 V0 own V w){i:Nat}{r r':aN}(hi:own[i]?=some r){w':ae}(hos:w'.os=w.os)(abw:w'.tape=w.tape)(hout:w'.output=w.output)(hsz:w.heap.size<=w'.heap.size)
  (hbl:∀c,c<w.heap.size->r.at_≠some c->w'.heap[c]?=w.heap[c]?) (hr:r'.laid w') (hn:∀b,r'.at_=some b->r.at_=some b\/w.heap.size<=b):Rel w0 V0 (own.set i r') V w':=by
 have hlt:i<own.length:=(cW.1 hi).1;have CS:own[i]=r:=(cW.1 hi).2;have hmem:r∈own:=fH hi;have hoth:∀(j:Nat) s,own[j]?=some s->j≠i->∀b,s.at_=some b->r.at_≠some b:=by
  intro j s hj hne b hb hc;have gT:=(cW.1 hj).1;have Ak:=(cW.1 hj).2;rcases Nat.lt_or_ge j i with h|h
  ·have:=vK.1 H.apart j i gT hlt h;rw[Ak,CS]at this;exact this b hb hc
  ·have:=vK.1 H.apart i j hlt gT aa;rw[Ak,CS]at this;exact this b hc hb
 have tS:∀x∈own.set i r',x=r'\/∃j,j≠i/\own[j]?=some x:=by
  intro x hx;obtain⟨j,hj⟩:=List.mem_iff_getElem?.1 hx;by_cases hji:i=j
  ·subst hji;rw[List.getElem?_set_self hlt]at hj;cases hj;exact .inl rfl
  ·rw[List.getElem?_set_ne hji]at hj;exact .inr ⟨j,λe=>hji e.symm,hj⟩
 have iL:∀(b:Nat) (c:Array ao) (t:TypeId) (f:Nat×Nat),V.heap[b]?=some (Obj.cells c t f)->w'.heap[b]?=some (Obj.cells c t f):=by
  intro b c t f hb;have h1:=H.data.bE b c t f hb;rw[hbl b (jG.1 h1).1 λhc=>H.hid r hmem b hc c t f hb];exact h1
 refine⟨⟨hos.trans H.base.os,abw.trans H.base.tape,hout.trans H.base.output,sJ H.base.size hsz,λk hk=>?_⟩,H.sub,H.old,λx hx=>?_,λx hx b hb=>?_,λx hx b hb=>?_,?_,⟨iL⟩⟩
 ·rw[hbl k (Tg hk H.base.size) λhc=>by have:=H.new r hmem k hc;omega];exact H.base.block k hk
 ·rcases tS x hx with rfl|⟨j,hj,hx⟩
  ·exact hr
  ·have hl:=H.laid x (fH hx);exact aN.jC hl λb hb=>hbl b (aN.lt hl hb) (hoth j x hx hj b hb)
 ·rcases tS x hx with rfl|⟨j,hj,hx⟩
  ·rcases hn b hb with h|h
   ·exact H.new r hmem b h
   ·exact sJ H.base.size h
  ·exact H.new x (fH hx) b hb
 ·rcases tS x hx with rfl|⟨j,hj,hx⟩
  ·rcases hn b hb with h|h
   ·exact H.hid r hmem b h
   ·intro c t f hc;have h1:=H.data.bE b c t f hc;have h2:=(jG.1 h1).1;omega
  ·exact H.hid x (fH hx) b hb
 ·rw[vK];intro j k hj hk og b hb hc;simp only[List.length_set]at hj hk;rw[List.getElem_set]at hb hc;have key:∀(m:Nat) (hm:m<own.length),m≠i->own[m].at_=some b->r'.at_=some b->False:=by
   intro m hm hne h1 h2;rcases hn b h2 with h|h
   ·exact hoth m own[m] (by simp[hm]) hne b h1 h
   ·have:=aN.lt (H.laid own[m] (List.getElem_mem hm)) h1;omega
  split at hb
  ·split at hc
   ·omega
   ·exact key k hk aa hc hb
  ·split at hc
   ·exact key j hj aa hb hc
   ·exact vK.1 H.apart j k hj hk og b hb hc
theorem Rel.rM(H:Rel w0 V0 own V w){i b:Nat}{c:aD}{t:TypeId}(hi:own[i]?=some (.ax b c t)):di w b c t:=H.laid (.ax b c t) (fH hi)
theorem Rel.rowAt(H:Rel w0 V0 own V w){i:Nat}{s:Sl}{e sz:Nat}{xs:aD}(hi:own[i]?=some (.row s e sz xs)):Row w s e sz xs:=H.laid (.row s e sz xs) (fH hi)
theorem Rel.Sz(H:Rel w0 V0 own V w){i b:Nat}{o:Obj}(hi:own[i]?=some (.obj b o)):w.heap[b]?=some o:=H.laid (.obj b o) (fH hi)
theorem Rel.H6(H:Rel w0 V0 own V w){i b o:Nat}{c:aD}{t:TypeId}{u:ao}(hi:own[i]?=some (.ax b c t))(h:c[o]?=some u):w.cell? ⟨b,o,none⟩=some u:=(H.rM hi).bE h
theorem Rel.M4(H:Rel w0 V0 own V w){i b:Nat}{c c':aD}{t:TypeId}(hi:own[i]?=some (.ax b c t)){w':ae}(hu:td w b c' t w'):Rel w0 V0 (own.set i (.ax b c' t)) V w':=by
 have hb:=H.rM hi;have hu':=hu;obtain⟨rfl⟩:=hu;exact H.put hi rfl rfl rfl ai (λk _ hk=>hu'.other λe=>hk (by rw[e];rfl)) (hu'.ax hb.lt) λk hk=>.inl hk
theorem Rel.storeAt(H:Rel w0 V0 own V w){i b o:Nat}{c l:aD}{t:TypeId}(hi:own[i]?=some (.ax b c t)){k:ae->Prop}(hk:fS c o l λc'=>∀w',Rel w0 V0 (own.set i (.ax b c' t)) V w'->k w') :
  ∃c t',nR w b c t'/\fS c o l λc'=>∀w',ma w b c' t' w'->k w':=by
 refine⟨c,t,(H.rM hi).f,?_⟩;have mono:∀(c:aD) (o:Nat) (l:aD) (k k':aD->Prop),(∀x,k x->k' x)->fS c o l k->fS c o l k':=by
  intro c;induction c with
  | nil=>intro o l k k' h hr;cases o<;>cases l<;>first|exact h _ hr|exact hr.elim
  | cons u c ih =>
   intro o l k k' h hr;cases o with
   | zero =>
    cases l with
    | nil=>exact h _ hr
    | cons v l=>exact ih 0 l _ _ (λx hx=>h _ hx) hr
   | succ o=>cases l<;>exact ih o _ _ _ (λx hx=>h _ hx) hr
 exact mono c o l _ _ (λc' hc' w' hu=>hc' w' (H.M4 hi (hu.D5 (H.rM hi)))) hk
theorem Rel.BG(hT:bK P T){t ty e:TypeId}{d de:TD}(hd:T[t]?=some d)(hu:d.under=.slice e)(hde:T[e]?=some de){z:ao}(hz:de.zero=some z)(hzs:z.cells.size=de.size)(hsz:0<de.size)
  {s x:Sl} {xs ys:aD} (H:Rel w0 V0 own V w) {i:Nat} (hi:own[i]?=some (.row s e de.size xs)) (hx:Cells w x.a ys) (hxl:ys.length=x.len*de.size) (h1:∀u∈ys,u.oneCell'=true) (hb:(s.len+x.len)*de.bytes<=140737488355328) (hm:s.len+x.len<=4611686018427387904)
  {k:ao->ae->Prop} (hk:∀s' w',Rel w0 V0 (own.set i (.row s' e de.size (xs++ys))) V w'->s'.len=s.len+x.len->k s'.v w'):bo P (Builtin.append_ #[t,t] ty #[s.v,x.v]) w k:=by
 refine Xx hT hd hu hde hz hzs hsz (H.rowAt hi) hx hxl h1 hb hm λs' w' hr hl hg=>hk s' w' ?_ hl;have hra:=(H.rowAt hi).at_;refine H.put hi hg.os hg.tape hg.output hg.size (λc hc hne=>hg.block c hc ?_) hr λb hb=>?_
 ·cases hs:s.a with
  | none=>exact .inl rfl
  | some p=>refine .inr λe=>hne ?_;rw[e];simp[aN.at_,hs,bD]
 ·simp only[aN.at_,il]at hb |-;obtain⟨p,hp,rfl⟩:=hb;rcases hg.own with h|⟨h,h'⟩|h
  ·rw[hp]at h;cases h
  ·cases hs:s.a with
   | none=>exact absurd hs h
   | some q=>rw[hp,hs]at h';exact .inl ⟨q,rfl,h'.symm⟩
  ·rw[hp]at h;exact .inr h
theorem Rel.freeze(H:Rel w0 V0 own V w){own':List aN}(h:own'.Sublist own):∃V',Sub V V'/\Rel w0 V0 own' V' w /\
  ∀(b:Nat) (c:Array ao) (t:TypeId) (f:Nat×Nat),w0.heap.size<=b->w.heap[b]?=some (Obj.cells c t f)->(∀r∈own',r.at_≠some b)->V'.heap[b]?=some (Obj.cells c t f):=by
 have Hs:=H.sl h;let q:Nat->Bool:=λi=>(decide (i<w0.heap.size)&&(match V.heap[i]? with|some (.cells _ _ _)=>false|_=>true))||own'.any λr=>r.at_ == some i
 have hq:∀i,q i=true↔(i<w0.heap.size/\FT V i)\/∃r∈own',r.at_=some i:=by
  intro i;simp only[q,rf,dM,decide_eq_true_eq,List.any_eq_true,beq_iff_eq];refine or_congr (and_congr Iff.rfl ?_) Iff.rfl;constructor
  ·intro hm c t f hc;rw[hc]at hm;cases hm
  ·intro hn;cases hv:V.heap[i]? with
   | none=>rfl
   | some o =>
    cases o with
    | cells c t f=>exact absurd hv (hn c t f)
    | _=>rfl
 refine⟨{ w with heap:=w.heap.mapIdx λi o=>if q i=true then .deferred none else o },?_,?_,?_⟩
 ·refine⟨λb c t f hb=>?_⟩;have h1:=H.data.bE b c t f hb;simp only[Lp,h1,gA,kv];rw[if_neg];intro hc;rcases(hq b).1 hc with⟨_,hn⟩|⟨r,hr,jz⟩
  ·exact hn c t f hb
  ·exact Hs.hid r hr b jz c t f hb
 ·have Jv:∀(b:Nat) (c:Array ao) (t:TypeId) (f:Nat×Nat),(w.heap.mapIdx λi o=>if q i=true then Obj.deferred none else o)[b]?=some (.cells c t f)->q b=false/\w.heap[b]?=some (.cells c t f):=by
   intro b c t f hb;rw[Lp]at hb;obtain⟨o,ho,hb⟩:=il.1 hb;split at hb
   ·cases hb
   ·rename_i hn;exact⟨by simpa using hn,by rw[ho,hb]⟩
  refine⟨H.base,?_,λb hb hn c t f hc=>?_,Hs.laid,Hs.new,λr hr b hb c t f hc=>?_,Hs.apart,⟨λb c t f hb=>(Jv b c t f hb).2⟩⟩
  ·refine⟨λb c t f hb=>?_⟩;have hb:=H.sub.bE b c t f hb;have h1:=H.data.bE b c t f hb;simp only[Lp,h1,gA,kv];rw[if_neg];intro hc;rcases(hq b).1 hc with⟨_,hn⟩|⟨r,hr,jz⟩
   ·exact hn c t f hb
   ·exact Hs.hid r hr b jz c t f hb
  ·have:=(Jv b c t f hc).1;have h2:=(hq b).2 (.inl ⟨hb,H.old b hb hn⟩);rw[this]at h2;cases h2
  ·have:=(Jv b c t f hc).1;have h2:=(hq b).2 (.inr ⟨r,hr,hb⟩);rw[this]at h2;cases h2
 ·intro b c t f tD hb hn;simp only[Lp,hb,gA,kv];rw[if_neg];intro hc;rcases(hq b).1 hc with⟨h1,_⟩|⟨r,hr,jz⟩
  ·omega
  ·exact hn r hr jz
theorem Rel.Z3{s:Sl}{e:Nat}(H:Rel w0 V0 (.row s e sz xs::own) V w):∃V',Sub V V'/\Rel w0 V0 own V' w/\Cells V' s.a xs/\s.len<=s.cap/\xs.length=s.len*sz:=by
 obtain⟨V',h1,h2,h3⟩:=H.freeze (Gh _ _);have hr:Row w s e sz xs:=H.laid (.row s e sz xs) ai;refine⟨V',h1,h2,?_,hr.cap,hr.len⟩;rcases hr.at_ with⟨g1,g2,g3⟩|⟨b,cur,g1,g2,g3,g4,g5,g6⟩
 ·have:xs=[]:=bL (by rw[hr.len,g2];simp);subst this;exact⟨λh=>absurd rfl h,λj v hj=>by simp at hj⟩
 ·obtain⟨fz,g2,_⟩:=g2;have hv:=h3 b cur e fz (H.new (.row s e sz xs) ai b (by simp[aN.at_,g1])) g2 (λr hr jz=>(lS.1 H.apart).1 r hr b (by simp[aN.at_,g1]) jz);refine⟨λ_=>by rw[g1];rfl,λj v hj=>?_⟩;rw[g1];simp only[bD,bw,dU];rw[<-g6,AU]at hj;split at hj
  ·simp[World.cell?,hv];simpa using hj
  ·cases hj
theorem Rel.bt(H:Rel w0 V0 (.ax b l t::own) V w):∃V',Sub V V'/\Rel w0 V0 own V' w/\di V' b l t:=by
 obtain⟨V',h1,h2,h3⟩:=H.freeze (Gh _ _);exact⟨V',h1,h2,h3 b l.toArray t (0,0) (H.new (.ax b l t) ai b rfl) (H.laid (.ax b l t) ai) (λr hr jz=>(lS.1 H.apart).1 r hr b rfl jz)⟩
theorem Rel.ql{c:aD}(H:Rel w0 V0 (.ax b c t::own) V w):di w b c t:=Rel.rM H (i:=0) rfl
theorem Rel.NH(hT:bK P T){t ty e:TypeId}{d de:TD}(hd:T[t]?=some d)(hu:d.under=.slice e)(hde:T[e]?=some de){z:ao}(hz:de.zero=some z)(hzs:z.cells.size=de.size)(hsz:0<de.size)
  {s x:Sl} {xs ys:aD} (H:Rel w0 V0 (.row s e de.size xs::own) V w) (hx:Cells w x.a ys) (hxl:ys.length=x.len*de.size) (h1:∀u∈ys,u.oneCell'=true) (hb:(s.len+x.len)*de.bytes<=140737488355328) (hm:s.len+x.len<=4611686018427387904)
  {k:ao->ae->Prop} (hk:∀s' w',Rel w0 V0 (.row s' e de.size (xs++ys)::own) V w'->s'.len=s.len+x.len->k s'.v w'):bo P (Builtin.append_ #[t,t] ty #[s.v,x.v]) w k :=
 Rel.BG hT hd hu hde hz hzs hsz H (i:=0) rfl hx hxl h1 hb hm hk
theorem Rel.HT{r0 r1:aN}(hT:bK P T){t ty e:TypeId}{d de:TD}(hd:T[t]?=some d)(hu:d.under=.slice e)(hde:T[e]?=some de){z:ao}(hz:de.zero=some z)(hzs:z.cells.size=de.size)(hsz:0<de.size)
  {s x:Sl} {xs ys:aD} (H:Rel w0 V0 (r0::r1::.row s e de.size xs::own) V w) (hx:Cells w x.a ys) (hxl:ys.length=x.len*de.size) (h1:∀u∈ys,u.oneCell'=true) (hb:(s.len+x.len)*de.bytes<=140737488355328) (hm:s.len+x.len<=4611686018427387904)
  {k:ao->ae->Prop} (hk:∀s' w',Rel w0 V0 (r0::r1::.row s' e de.size (xs++ys)::own) V w'->s'.len=s.len+x.len->k s'.v w'):bo P (Builtin.append_ #[t,t] ty #[s.v,x.v]) w k :=
 Rel.BG hT hd hu hde hz hzs hsz H (i:=2) rfl hx hxl h1 hb hm hk
inductive At:List aN->aN->Prop where
 | h {r:aN} {l:List aN}:At (r::l) r
 | t {x r:aN} {l:List aN}:At l r->At (x::l) r
theorem At.idx{l:List aN}{r:aN}(h:At l r):∃i:Nat,l[i]?=some r:=by
 induction h with
 | h=>exact⟨0,rfl⟩
 | t _ ih=>obtain⟨i,hi⟩:=ih;exact⟨i+1,hi⟩
inductive zi:List aN->aN->(aN->List aN)->Prop where
 | h {r:aN} {l:List aN}:zi (r::l) r (λx=>x::l)
 | t {y r:aN} {l:List aN} {f:aN->List aN}:zi l r f->zi (y::l) r (λx=>y::f x)
theorem zi.idx{l:List aN}{r:aN}{f:aN->List aN}(h:zi l r f):∃i:Nat,l[i]?=some r/\∀x,l.set i x=f x:=by
 induction h with
 | h=>exact⟨0,rfl,λx=>rfl⟩
 | t _ ih=>obtain⟨i,hi,hf⟩:=ih;exact⟨i+1,hi,λx=>by rw[List.set_cons_succ,hf]⟩
theorem Rel.st(H:Rel w0 V0 own V w){b o:Nat}{c l:aD}{t:TypeId}{f:aN->List aN}{k:ae->Prop}(hk:fS c o l λc'=>∀w',Rel w0 V0 (f (.ax b c' t)) V w'->k w')(hm:zi own (.ax b c t) f:=by repeat constructor) :
  ∃c t',nR w b c t'/\fS c o l λc'=>∀w',ma w b c' t' w'->k w':=by
 obtain⟨i,hi,hf⟩:=hm.idx;simp only[<-hf]at hk;exact Rel.storeAt H hi hk
theorem an{q:Prop}(hq:q)(hp:p:=by first|omega|assumption|exact rfl|exact abF _|exact K.base):p/\q:=⟨hp,hq⟩
theorem ol{q r:Prop}(hq:q)(hp:p:=by first|omega|assumption):(p/\q)\/r:=.inl ⟨hp,hq⟩
theorem ea{α:Type}{p q:α->Prop}{x:α}(hq:q x)(hp:p x:=by assumption):∃x,p x/\q x:=⟨x,hp,hq⟩
theorem Rel.ce(H:Rel w0 V0 own V w){b o:Nat}{c:aD}{t:TypeId}{u:ao}{P:ao->Prop}(hk:P u)(hm:At own (.ax b c t):=by repeat constructor)(h:c[o]?=some u:=by rfl):∃u,w.cell? ⟨b,o,none⟩=some u/\P u :=
 let⟨_,hi⟩:=hm.idx;⟨u,H.H6 hi h,hk⟩
theorem Rel.da(H:Rel w0 V0 own V w){a:Addr}{u:ao}{P:ao->Prop}(h:V.cell? a=some u)(hk:P u):∃u,w.cell? a=some u/\P u:=⟨u,H.zL h,hk⟩
theorem Rel.db(H:Rel w0 V0 own V w){a:Addr}{u:ao}{P:ao->Prop}(hk:P u)(h:V.cell? a=some u:=by assumption):∃u,w.cell? a=some u/\P u:=⟨u,H.zL h,hk⟩
theorem Rel.sx(H:Rel w0 V0 own V w){own':List aN}(h:own'.Sublist own:=by repeat (first|exact List.Sublist.refl _|exact List.nil_sublist _|refine List.Sublist.cons_cons _ ?_|refine List.Sublist.cons _ ?_)):Rel w0 V0 own' V w:=H.sl h
theorem cT{_:Decidable p}(h1:F true)(h2:¬p->False:=by(intro h;omega)):lz 0 (decide p) F:=gI (λ_=>h1) λh=>(h2 h).elim
theorem cF{_:Decidable p}(h1:F false)(h2:p->False:=by(intro h;omega)):lz 0 (decide p) F:=gI (λh=>(h2 h).elim) λ_=>h1
theorem cN{_:Decidable p}(h1:F true)(h2:p->False:=by(intro h;omega)):lz 0 (!decide p) F:=BV (λ_=>h1) λh=>(h2 h).elim
theorem cM{_:Decidable p}(h1:F false)(h2:¬p->False:=by(intro h;omega)):lz 0 (!decide p) F:=BV (λh=>(h2 h).elim) λ_=>h1
structure wJ(p:Prop):Prop where
 go:p
theorem wk{G G':Prop}(h:G')(e:wJ G'->G:=by(intro hw;(repeat ((conv=>whnf);first|refine an ?_|refine Rel.ce H ?_|refine Rel.db H ?_|refine ea ?_|refine ol ?_|refine cT ?_|refine cF ?_|refine cN ?_|refine cM ?_|refine H.da (hc1 _ _ aW) ?_|refine H.eU hc1 aW ?_|refine H.eT hc1 aW ?_|refine H.da (hc2 _ _ aW) ?_|refine H.eU hc2 aW ?_|refine H.eT hc2 aW ?_|refine H.da (hc3 _ _ aW) ?_|refine H.eU hc3 aW ?_|refine H.eT hc3 aW ?_|refine H.da (hc4 _ _ aW) ?_|refine H.eU hc4 aW ?_|refine H.eT hc4 aW ?_|refine Rel.lw H ?_|refine Rel.ll H ?_));(conv=>whnf);exact hw.go)):G:=e ⟨h⟩
theorem Rel.wh(H:Rel w0 V0 own V w){G G':Prop}(h:G')(e:wJ G'->G:=by(intro hw;(repeat ((conv=>whnf);first|refine an ?_|refine Rel.ce H ?_|refine Rel.db H ?_|refine ea ?_|refine ol ?_|(refine Rel.st H ?_;(conv=>whnf);(try clear H);intro wq H)|refine cT ?_|refine cF ?_|refine cN ?_|refine cM ?_|refine H.da (hc1 _ _ aW) ?_|refine H.eU hc1 aW ?_|refine H.eT hc1 aW ?_|refine H.da (hc2 _ _ aW) ?_|refine H.eU hc2 aW ?_|refine H.eT hc2 aW ?_|refine H.da (hc3 _ _ aW) ?_|refine H.eU hc3 aW ?_|refine H.eT hc3 aW ?_|refine H.da (hc4 _ _ aW) ?_|refine H.eU hc4 aW ?_|refine H.eT hc4 aW ?_|refine Rel.lw H ?_|refine Rel.ll H ?_));(conv=>whnf);revert H;(repeat revert wq);(repeat revert bq);exact hw.go)):G:=e ⟨h⟩
theorem Rel.uI(H:Rel w0 V0 own V w){G G':Prop}(h:G')(e:wJ G'->G:=by(intro hw;(repeat ((conv=>whnf);first|refine an ?_|refine Rel.ce H ?_|refine Rel.db H ?_|refine ea ?_|refine ol ?_|(refine Rel.st H ?_;(conv=>whnf);(try clear H);intro wq H)|refine cT ?_|refine cF ?_|refine cN ?_|refine cM ?_|refine H.da (hc1 _ _ aW) ?_|refine H.eU hc1 aW ?_|refine H.eT hc1 aW ?_|refine H.da (hc2 _ _ aW) ?_|refine H.eU hc2 aW ?_|refine H.eT hc2 aW ?_|refine H.da (hc3 _ _ aW) ?_|refine H.eU hc3 aW ?_|refine H.eT hc3 aW ?_|refine H.da (hc4 _ _ aW) ?_|refine H.eU hc4 aW ?_|refine H.eT hc4 aW ?_|refine Rel.lw H ?_|refine Rel.ll H ?_));(conv=>whnf);refine wJ.go (p:=_) ?_;revert H;(repeat revert wq);(repeat revert bq);exact hw.go)):G:=e ⟨h⟩
theorem Rel.wg(H:Rel w0 V0 own V w){G G':Prop}(h:G')(e:wJ G'->G:=by(intro hw;(repeat ((conv=>whnf);first|refine an ?_|((first|refine Rel.pH H ?_|refine Rel.nw H ?_);(try clear H);intro wq bq H)|refine Rel.ce H ?_|refine Rel.db H ?_|refine ea ?_|refine ol ?_|(refine Rel.st H ?_;(conv=>whnf);(try clear H);intro wq H)|refine cT ?_|refine cF ?_|refine cN ?_|refine cM ?_|refine H.da (hc1 _ _ aW) ?_|refine H.eU hc1 aW ?_|refine H.eT hc1 aW ?_|refine H.da (hc2 _ _ aW) ?_|refine H.eU hc2 aW ?_|refine H.eT hc2 aW ?_|refine H.da (hc3 _ _ aW) ?_|refine H.eU hc3 aW ?_|refine H.eT hc3 aW ?_|refine H.da (hc4 _ _ aW) ?_|refine H.eU hc4 aW ?_|refine H.eT hc4 aW ?_|refine Rel.lw H ?_|refine Rel.ll H ?_));(conv=>whnf);revert H;(repeat revert wq);(repeat revert bq);exact hw.go)):G:=e ⟨h⟩
theorem Rel.Bm(H:Rel w0 V0 own V w){G G':Prop}(h:G')(e:wJ G'->G:=by(intro hw;(repeat ((conv=>whnf);first|refine an ?_|((first|refine Rel.pH H ?_|refine Rel.nw H ?_);(try clear H);intro wq bq H)|refine Rel.ce H ?_|refine Rel.db H ?_|refine ea ?_|refine ol ?_|(refine Rel.st H ?_;(conv=>whnf);(try clear H);intro wq H)|refine cT ?_|refine cF ?_|refine cN ?_|refine cM ?_|refine H.da (hc1 _ _ aW) ?_|refine H.eU hc1 aW ?_|refine H.eT hc1 aW ?_|refine H.da (hc2 _ _ aW) ?_|refine H.eU hc2 aW ?_|refine H.eT hc2 aW ?_|refine H.da (hc3 _ _ aW) ?_|refine H.eU hc3 aW ?_|refine H.eT hc3 aW ?_|refine H.da (hc4 _ _ aW) ?_|refine H.eU hc4 aW ?_|refine H.eT hc4 aW ?_|refine Rel.lw H ?_|refine Rel.ll H ?_));(conv=>whnf);refine wJ.go (p:=_) ?_;revert H;(repeat revert wq);(repeat revert bq);exact hw.go)):G:=e ⟨h⟩
end
end Go.Proofs.YtmoiobegbpkkbaaGreatDoor
