import Derived.TacticsIn
import Derived.TacticsInMore
import Derived.RangeFuncIn
import Derived.Laws.AppendOwn
import Derived.Laws.CopyRow
import Derived.Laws.Cells
import Derived.Laws.Entries
import Derived.Below
import Derived.KernelRfl
import Derived.Laws.Tables
import Derived.Laws.Strings
import Derived.Laws.Strings2
import Derived.Laws.StructEq
import Derived.Laws.Concat
import Derived.Laws.IdiomStrings
import Derived.Test.YtmoiobegbpkkbaaGreatDoorProg
open Array renaming getElem?_eq_some_iff->jG,getElem_modify->Ty,toArray_toList->TG,toList_setIfInBounds->aeI,ext'->qZ
open BitVec renaming toNat_or->TJ,xor_allOnes->aeP
open List renaming getElem?_cons_succ->vJ,getElem?_map->eu,all_eq_true->bj,mem_cons->bB,take_append_drop->eN,getElem?_eq_some_iff->cW,length_cons->av,take_of_length_le->bR,drop_of_length_le->pW,drop_drop->oC,append_assoc->bJ,cons_append->aL,nil_append->aA,length_append->aq,length_take->bb,length_drop->bd,drop_left->k7,drop_append_of_le_length->Gw,flatMap_cons->bz
open Nat renaming eq_of_beq_eq_true->pN,add_comm->uk,add_zero->mK,succ_mul->mL,mul_comm->mM,two_pow_add_eq_or_of_lt->TK
open Option renaming map_some->gA
open Option.some renaming injEq->kv
namespace Go.Proofs.YtmoiobegbpkkbaaGreatDoor
open Go Go.RowKit
set_option maxRecDepth 100000
set_option maxHeartbeats 8000000
variable{p:Prop}{r:Option Nat}{n:Int}{P:Program}{t:TypeId}{x b B i u q:Nat}{a:Option Addr}{F:Bool->Prop}{k:IntKind}{op:BinOp}{y:Operand}{neg:Bool}{o:Oper}{s:Sem Unit}
theorem aa{p:Prop}(h:p:=by omega):p:=h
theorem ag{p:Prop}(h:p:=by decide):p:=h
theorem aj{p:Prop}(h:p:=by kernel_rfl):p:=h
theorem ai{p:Prop}(h:p:=by simp):p:=h
theorem aW{p:Prop}(h:p:=by rfl):p:=h
abbrev ad:=List UInt8
abbrev au:=List Nat
abbrev aD:=List Value
abbrev bg:=List ad
abbrev fx:=Option ad
abbrev ao:=Value
abbrev ae:=World
abbrev qtQ:=List au
theorem sB(h:p:=by repeat (first|exact trivial|refine⟨rfl,?_⟩)):p:=h
def Fr(r:Option Nat):Fence:={ Fence.wide with round:=r }
theorem Nn(r:Option Nat)(n:Nat):(Fr r).room n:=λ_ h=>by simp[Fr,Fence.wide]at h
theorem BP{n:Nat}{f:FuncId}{args:Array ao}{w:ae}{R:Ending->ae->Prop} :
  CallsIn (Fr r) n P f args w R↔Calls P f args w R :=
 ⟨λh=>callsIn_wide (n:=0).1 ⟨trivial,λcs _=>h.2 cs (Nn _ _)⟩,
  λh=>⟨trivial,λcs _=>((callsIn_wide (n:=0)).2 h).2 cs (room_wide _)⟩⟩
def Enters(P:Program)(f:FuncId):Prop:=∀args w,(callFunc f args).run P w=.ok (.enter f args) w
theorem xe{f:FuncId}{fn:Func}(hf:P.funcs[f]?=some fn)(hb:fn.body.isSome=true)(hn:(fn.name == "runtime.NumGoroutine")=false):Enters P f:=by
 intro args w;cases h:fn.body with
 | none=>simp[h]at hb
 | some c =>
  have hn':¬fn.name = "runtime.NumGoroutine":=by simpa using hn
  simp[callFunc,hf,hn',h]
structure cw(P:Program)(f:FuncId)(args:Array ao)(w:ae)(K:ao->ae->Prop)(Z:List PanicEntry->ae->Prop):Prop where
 out:(Enters P f/\Calls P f args w λe w'=>match e with|.returned v=>K v w'|.panicked ch=>Z ch w'|.outgrown=>False)\/∃v w',(callFunc f args).run P w=.ok (.value v) w'/\K v w'
theorem Calls.lM{f:FuncId}{args:Array ao}{w:ae}{R R':Ending->ae->Prop}(h:Calls P f args w R)(hr:∀e w',R e w'->R' e w'):Calls P f args w R' :=
 λcs=>let⟨e,w',fr,r,s⟩:=h cs;⟨e,w',fr,hr _ _ r,s⟩
theorem cw.mono{f:FuncId}{args:Array ao}{w:ae}{K K':ao->ae->Prop}{Z Z':List PanicEntry->ae->Prop}
  (h:cw P f args w K Z) (hk:∀v w',K v w'->K' v w') (hz:∀c w',Z c w'->Z' c w'):cw P f args w K' Z' :=
 ⟨h.out.imp (λ⟨he,hc⟩=>⟨he,Calls.lM hc λe w' r=>by cases e with
  | returned v=>exact hk _ _ r
  | panicked c=>exact hz _ _ r
  | outgrown=>exact r⟩) λ⟨v,w',hr,h⟩=>⟨v,w',hr,hk _ _ h⟩⟩
theorem cw.Zz{f:FuncId}{args:Array ao}{w:ae}{K:ao->ae->Prop}{Z:List PanicEntry->ae->Prop}(he:Enters P f)(h:cw P f args w K Z) :
  Calls P f args w λe w'=>match e with|.returned v=>K v w'|.panicked ch=>Z ch w'|.outgrown=>False:=by
 rcases h.out with⟨_,h⟩|⟨v,w',hr,_⟩
 ·exact h
 ·rw[he args w]at hr;cases hr
abbrev eD(P:Program)(f:FuncId)(args:Array ao)(w:ae)(K:ao->ae->Prop):Prop:=cw P f args w K (λ_ _=>False)
abbrev oD:=eD Tryz.prog
abbrev aC(f:FuncId)(l:aD):=eD Tryz.prog f l.toArray
theorem eD.use{f:FuncId}{args:Array ao}{w:ae}{K K':ao->ae->Prop}{Z:List PanicEntry->ae->Prop}
  (h:eD P f args w K) (hk:∀v w',K v w'->K' v w'):cw P f args w K' Z:=cw.mono h hk (λ_ _ h=>h.elim)
theorem eD.mono{P:Program}{f:FuncId}{args:Array ao}{w:ae}{K K':ao->ae->Prop}
  (h:eD P f args w K) (hk:∀v w',K v w'->K' v w'):eD P f args w K':=cw.mono h hk (λ_ _ h=>h.elim)
theorem eD.calls{f:FuncId}{args:Array ao}{w:ae}{K:ao->ae->Prop}(he:Enters P f)(h:eD P f args w K) :
  Calls P f args w λe w'=>∃v,e=.returned v/\K v w' :=
 Calls.lM (cw.Zz he h) λe w' r=>by cases e with
  | returned v=>exact⟨v,rfl,r⟩
  | panicked c=>exact r.elim
  | outgrown=>exact r.elim
theorem afN{r':Option Nat}{n n':Nat}{l:Nat}{f:FuncId}{tmps:Array ao}{assign body:Code}{w:ae}{R:Ending->ae->Prop}(h:RoundIn (Fr r) n P l f tmps assign body w R) :
  RoundIn (Fr r') n' P l f tmps assign body w R:=⟨trivial,λc cs _=>h.2 c cs (Nn _ _)⟩
structure BE(P:Program)(l:Nat)(args:Array ao)(W:ae)(R:Bool->ae->Prop):Prop where
 out:∃fn tmps assign body,(Instr.yield l args).run P W=.ok (.round l fn tmps assign body) W/\RoundIn (Fr none) 0 P l fn tmps assign body W λe W'=>∃b,e=.returned (.bool b)/\R b W'
theorem BE.mono{P:Program}{l:Nat}{args:Array ao}{W:ae}{R R':Bool->ae->Prop}(h:BE P l args W R)(hr:∀b W',R b W'->R' b W'):BE P l args W R':=by
 obtain⟨fn,tmps,assign,body,h1,h2⟩:=h.out;exact⟨fn,tmps,assign,body,h1,h2.mono λe W' ⟨b,he,hb⟩=>⟨b,he,hr b W' hb⟩⟩
abbrev Env:=List (Nat×ao)
def get?:Env->Nat->Option ao
 | [],_=>none
 | (s,v)::r,t=>match Nat.beq s t with|true=>some v|false=>get? r t
def tz:Env->Nat->(ao->Prop)->Prop
 | [],_,_=>False
 | (s,v)::r,t,k=>match Nat.beq s t with|true=>k v|false=>tz r t k
theorem u7{env:Env}{t:Nat}{k:ao->Prop}:tz env t k↔∃v,get? env t=some v/\k v:=by
 induction env with
 | nil=>simp[tz,get?]
 | cons p r ih =>
  obtain⟨s,v⟩:=p;simp only[tz,get?];cases h:Nat.beq s t with
  | true=>simp
  | false=>exact ih
def Sat(env:Env)(tm:Array ao):Prop:=∀t v,get? env t=some v->tm[t]?=some v
theorem Sat.nil(tm:Array ao):Sat [] tm:=λ_ _ h=>by simp[get?]at h
theorem Sat.put{env:Env}{tm:Array ao}(h:Sat env tm){d:Nat}(hd:d<tm.size)(v:ao):Sat ((d,v)::env) (tm.setIfInBounds d v):=by
 intro t u hu;simp only[get?]at hu;cases e:Nat.beq d t with
 | true =>
  simp only[e]at hu;have:d=t:=pN e;subst this;cases hu;simp[hd]
 | false =>
  simp only[e]at hu;have:d≠t:=Nat.ne_of_beq_eq_false e;rw[Array.getElem?_setIfInBounds];simp[this,h t u hu]
theorem Sat.cons{env:Env}{tm:Array ao}(h:Sat env tm){d:Nat}{v:ao}(hd:tm[d]?=some v):Sat ((d,v)::env) tm:=by
 intro t u hu;simp only[get?]at hu;cases e:Nat.beq d t with
 | true =>
  simp only[e]at hu;have:d=t:=pN e;subst this;cases hu;exact hd
 | false=>simp only[e]at hu;exact h t u hu
def cA(env:Env)(x:Operand)(k:ao->Prop):Prop :=
 match x with
 | .tmp t=>tz env t k
 | .const v=>k v
 | .global g=>k (.pointer (some ⟨g,0,none⟩))
 | .func f=>k (.func (.func f) #[] #[])
theorem dm{env:Env}{x:Operand}{k:ao->Prop}{a:Act}(h:cA env x k)(hs:Sat env a.tmps):k (a.eval x):=by
 cases x with
 | tmp t =>
  obtain⟨v,hv,hk⟩:=u7.1 h;have:=hs t v hv;simp only[Act.eval,Array.getD_eq_getD_getElem?,this,Option.getD_some];exact hk
 | const v=>exact h
 | global g=>exact h
 | func f=>exact h
def iW(env:Env):List Operand->(aD->Prop)->Prop
 | [],k=>k []
 | x::xs,k=>cA env x λv=>iW env xs λvs=>k (v::vs)
theorem uJ{env:Env}{a:Act}(hs:Sat env a.tmps):∀ {xs:List Operand} {k:aD->Prop},iW env xs k->k (xs.map a.eval)
 | [],_,h=>h
 | x::xs,k,h=>by
  have h1:=dm h hs;exact uJ hs (xs:=xs) h1
def lz:Nat->Bool->(Bool->Prop)->Prop
 | 0,true,F=>F true
 | 0,false,F=>F false
 | n+1,b,F=>lz n b F
theorem Ij{b:Bool}:lz 0 b F↔F b:=by cases b<;>exact Iff.rfl
theorem wY{b:Bool}(h1:b=true->F true)(h2:b=false->F false):lz 0 b F:=by
 cases b with
 | true=>exact h1 rfl
 | false=>exact h2 rfl
theorem gI{_:Decidable p}(h1:p->F true)(h2:¬p->F false):lz 0 (decide p) F :=
 wY (λh=>h1 (of_decide_eq_true h)) (λh=>h2 (of_decide_eq_false h))
theorem BV{_:Decidable p}(h1:¬p->F true)(h2:p->F false):lz 0 (!decide p) F:=by
 by_cases h:p
 ·simp only[h,decide_true,Bool.not_true];exact h2 h
 ·simp only[h,decide_false,Bool.not_false];exact h1 h
theorem YB{b:Bool}(h:b=true)(h1:F true):lz 0 b F:=by subst h;exact h1
theorem zI{b:Bool}(h:b=false)(h1:F false):lz 0 b F:=by subst h;exact h1
def di(w:ae)(b:Nat)(l:aD)(t:TypeId):Prop:=w.heap[b]?=some (.cells l.toArray t (0,0))
structure qf(w:ae)(b:Nat)(l:aD)(t:TypeId)(w':ae):Prop where
 num:b=w.heap.size
 wd:w'=w.alloc (.cells l.toArray t)
structure td(w:ae)(b:Nat)(l:aD)(t:TypeId)(w':ae):Prop where
 wd:w'={ w with heap:=w.heap.setIfInBounds b (.cells l.toArray t (0,0)) }
abbrev Ext(w w':ae):Prop:=Below w.heap.size w w'
theorem Ext.refl(w:ae):Ext w w:=Below.refl _ _
theorem Ext.trans{a b c:ae}(h:Ext a b)(k:Ext b c):Ext a c:=Below.trans h (k.mono h.size)
theorem qf.ext{w:ae}{l:aD}{w':ae}(h:qf w b l t w'):Ext w w':=by
 obtain⟨_,rfl⟩:=h;exact(Below.refl _ _).alloc (Nat.le_refl _) _
theorem qf.ax{w:ae}{l:aD}{w':ae}(h:qf w b l t w'):di w' b l t:=by
 obtain⟨rfl,rfl⟩:=h;exact heap_alloc_new w _
theorem di.lt{w:ae}{l:aD}(h:di w b l t):b<w.heap.size:=(jG.1 h).1
theorem di.cell{w:ae}{b:Nat}{l:aD}{t:TypeId}(h:di w b l t)(i:Nat):w.cell? ⟨b,i,none⟩=l[i]?:=by
 unfold di at h;simp[World.cell?,h]
theorem td.ax{w:ae}{l:aD}{w':ae}(h:td w b l t w')(hb:b<w.heap.size):di w' b l t:=by
 obtain⟨rfl⟩:=h;simp[di,hb]
theorem td.size{w:ae}{b:Nat}{l:aD}{t:TypeId}{w':ae}(h:td w b l t w'):w'.heap.size=w.heap.size:=by
 obtain⟨rfl⟩:=h;simp
theorem td.other{w:ae}{l:aD}{w':ae}(h:td w b l t w'){c:Nat}(hc:c≠b):w'.heap[c]?=w.heap[c]?:=by
 obtain⟨rfl⟩:=h;simp[Ne.symm hc]
def Bx(fz:Nat×Nat)(n:Nat):Prop:=∀j,j<n->¬(fz.1<=j/\j<fz.2)
def oU(w:ae)(b:Nat)(cur:Array ao)(t:TypeId):Prop:=∃fz,w.heap[b]?=some (.cells cur t fz)/\Bx fz cur.size
abbrev nR(w:ae)(b:Nat)(l:aD)(t:TypeId):Prop:=oU w b l.toArray t
structure ma(w:ae)(b:Nat)(l:aD)(t:TypeId)(w':ae):Prop where
 wd:∃fz cs,w.heap[b]?=some (.cells cs t fz)/\w'={ w with heap:=w.heap.setIfInBounds b (.cells l.toArray t fz) }
theorem Bx.zero(n:Nat):Bx (0,0) n:=λj _ h=>Nat.not_lt_zero j h.2
theorem di.f{w:ae}{l:aD}(h:di w b l t):nR w b l t:=⟨(0,0),h,.zero _⟩
theorem oU.lt{w:ae}{cur:Array ao}(h:oU w b cur t):b<w.heap.size:=by
 obtain⟨fz,h1,_⟩:=h;exact(jG.1 h1).1
theorem oU.jC{w w':ae}{cur:Array ao}(h:oU w b cur t)(hk:w'.heap[b]?=w.heap[b]?):oU w' b cur t:=by
 obtain⟨fz,h1,h2⟩:=h;exact⟨fz,hk.trans h1,h2⟩
theorem oU.cell{w:ae}{b:Nat}{cur:Array ao}{t:TypeId}(h:oU w b cur t)(i:Nat):w.cell? ⟨b,i,none⟩=cur[i]?:=by
 obtain⟨fz,h1,_⟩:=h;simp[World.cell?,h1]
theorem ma.D5{w:ae}{c l:aD}{w':ae}(h:ma w b l t w')(hb:di w b c t):td w b l t w':=by
 obtain⟨fz,cs,h1,h2⟩:=h.wd;have e:=(show w.heap[b]?=some (.cells c.toArray t (0,0))from hb).symm.trans h1;injection e with e
 injection e with _ _ e
 subst e;exact⟨h2⟩
theorem ma.other{w:ae}{l:aD}{w':ae}(h:ma w b l t w'){c:Nat}(hc:c≠b):w'.heap[c]?=w.heap[c]?:=by
 obtain⟨fz,cs,_,rfl⟩:=h.wd;simp[Ne.symm hc]
theorem ma.row{w:ae}{l:aD}{cur:Array ao}{w':ae}(h:ma w b l t w')(hb:oU w b cur t)(hl:l.length=cur.size):oU w' b l.toArray t:=by
 obtain⟨fz,cs,h1,rfl⟩:=h.wd;obtain⟨fz',h2,h3⟩:=hb;have hlt:=(jG.1 h1).1;have e:=h1.symm.trans h2;injection e with e
 injection e with e1 _ e2
 subst e1 e2;exact⟨fz,by simp[hlt],by simpa [hl]using h3⟩
structure Tw(B:Nat)(w w':ae):Prop where
 os:w'.os=w.os
 tape:w'.tape=w.tape
 output:w'.output=w.output
 size:w.heap.size<=w'.heap.size
 low:∀k,k<B->w'.heap[k]?=w.heap[k]?
 bE:∀(k:Nat) (c:Array ao) (t:TypeId) (f:Nat×Nat),w.heap[k]?=some (Obj.cells c t f)->w'.heap[k]?=some (Obj.cells c t f)
theorem Ext.tw{w w':ae}(h:Ext w w')(hB:B<=w.heap.size):Tw B w w' :=
 ⟨h.os,h.tape,h.output,h.size,λk hk=>h.block k aa,λk c t f hk=>(h.block k (jG.1 hk).1).trans hk⟩
theorem Tw.mono{B':Nat}{a b:ae}(h:Tw B a b)(hB:B'<=B):Tw B' a b:=⟨h.os,h.tape,h.output,h.size,λk hk=>h.low k aa,h.bE⟩
theorem di.tw{w w':ae}{l:aD}(h:di w b l t)(hb:Tw B w w'):di w' b l t:=hb.bE _ _ _ _ h
structure bo(P:Program)(s:Sem ao)(w:ae)(k:ao->ae->Prop):Prop where
 ex:∃v w',s.run P w=.ok v w'/\k v w'
theorem bo.of{s:Sem ao}{w:ae}{k:ao->ae->Prop}{v:ao}{w':ae}(h:s.run P w=.ok v w')(hk:k v w'):bo P s w k:=⟨v,w',h,hk⟩
inductive oY where
 | bool|int (k:IntKind)|string|pointer (e:TypeId)|slice (e:TypeId)|array (n:Nat) (e:TypeId)|map (k e:TypeId)|struct (fs:List (Nat×TypeId))|blank|func|iface|other
def c8:TypeDesc->oY
 | .bool=>.bool|.int k=>.int k|.string=>.string|.pointer e=>.pointer e|.slice e=>.slice e|.array n e=>.array n e|.map k e=>.map k e
 | .struct fs=>(match fs.any λf=>f.name == "_" with|true=>.blank|false=>.struct (fs.toList.map λf=>(f.offset,f.type)))|.func _ _ _=>.func|.interface _=>.iface|_=>.other
structure TD where
 under:oY
 size:Nat
 bytes:Nat
 zero:Option ao
 eq:Bool:=false
def eb:List TD->Nat->(TD->Prop)->Prop
 | [],_,_=>False
 | d::_,0,k=>k d
 | _::r,t+1,k=>eb r t k
theorem MG{T:List TD}{t:Nat}{k:TD->Prop}:eb T t k↔∃d,T[t]?=some d/\k d:=by
 induction T generalizing t with
 | nil=>simp[eb]
 | cons d r ih =>
  cases t with
  | zero=>simp[eb]
  | succ t=>simp only[eb,vJ];exact ih
structure dv(P:Program)(t:TypeId)(d:TD):Prop where
 under:∃d0,P.underlying t=some d0/\c8 d0=d.under
 info:∃i,P.info? t=some i/\i.size=d.size/\i.bytes=d.bytes/\i.zero=d.zero
 eq:d.eq=true->P.eqGuardType P.depth t=false/\P.stoodInHeld t=false
def bK(P:Program)(T:List TD):Prop:=∀t d,T[t]?=some d->dv P t d
theorem gp{T:List TD}(hT:bK P T){t:Nat}{k:TD->Prop}(h:eb T t k):∃d,dv P t d/\k d:=by
 obtain⟨d,hd,hk⟩:=MG.1 h;exact⟨d,hT t d hd,hk⟩
def MC(P:Program):List (Option oY×Option (Nat×Nat×Option ao)) :=
 (List.range P.types.size).map λt=>((P.underlying t).map c8,(P.info? t).map λi=>(i.size,i.bytes,i.zero))
def ZC(P:Program)(es:List TypeId):Bool:=es.all λt=>!P.eqGuardType P.depth t&&!P.stoodInHeld t
theorem ahb{T:List TD}{es:List TypeId}(h:MC P=T.map λd=>(some d.under,some (d.size,d.bytes,d.zero)))(h':ZC P es=true)
  (h'':(T.zipIdx.all λp=>!p.1.eq||es.contains p.2)=true):bK P T:=by
 intro t d hd;have h1:(MC P)[t]?=some (some d.under,some (d.size,d.bytes,d.zero)):=by rw[h,eu,hd];rfl
 unfold MC at h1;rw[eu]at h1;by_cases ht:t<P.types.size
 ·rw[List.getElem?_range ht]at h1;simp only[gA,kv,Prod.mk.injEq]at h1;obtain⟨h2,h3⟩:=h1;refine⟨?_,?_,λhe=>?_⟩
  ·cases hu:P.underlying t with
   | none=>simp[hu]at h2
   | some d0=>simp only[hu,gA,kv]at h2;exact⟨d0,rfl,h2⟩
  ·cases hi:P.info? t with
   | none=>simp[hi]at h3
   | some i =>
    simp only[hi,gA,kv,Prod.mk.injEq]at h3;exact⟨i,rfl,h3.1,h3.2.1,h3.2.2⟩
  ·have hm:(d,t)∈T.zipIdx:=by rw[List.mem_iff_getElem?];exact⟨t,by rw[List.getElem?_zipIdx,hd];simp⟩
   have h4:=bj.1 h'' _ hm;simp only[he,Bool.not_true,Bool.false_or,List.contains_iff_mem]at h4;have h5:=bj.1 h' _ h4;simpa using h5
 ·rw[List.getElem?_eq_none (by simpa using ht)]at h1;simp at h1
section
variable{P:Program}{t:TypeId}{d:TD}
theorem dv.rj(h:dv P t d)(w:ae):∃d0,(underlying t).run P w=.ok d0 w/\c8 d0=d.under:=by
 obtain⟨d0,h1,h2⟩:=h.under;exact⟨d0,run_underlying h1 w,h2⟩
theorem dv.slice(h:dv P t d){e:TypeId}(hu:d.under=.slice e)(w:ae):(underlying t).run P w=.ok (.slice e) w:=by
 obtain⟨d0,h1,h2⟩:=h.rj w;rw[hu]at h2;cases d0<;>first|(simp_all[c8];done)|(simp only[c8]at h2;split at h2<;>cases h2)
theorem dv.array(h:dv P t d){n e:Nat}(hu:d.under=.array n e)(w:ae):(underlying t).run P w=.ok (.array n e) w:=by
 obtain⟨d0,h1,h2⟩:=h.rj w;rw[hu]at h2;cases d0<;>first|(simp_all[c8];done)|(simp only[c8]at h2;split at h2<;>cases h2)
theorem dv.string(h:dv P t d)(hu:d.under=.string)(w:ae):(underlying t).run P w=.ok .string w:=by
 obtain⟨d0,h1,h2⟩:=h.rj w;rw[hu]at h2;cases d0<;>first|(simp_all[c8];done)|(simp only[c8]at h2;split at h2<;>cases h2)
theorem dv.bool(h:dv P t d)(hu:d.under=.bool)(w:ae):(underlying t).run P w=.ok .bool w:=by
 obtain⟨d0,h1,h2⟩:=h.rj w;rw[hu]at h2;cases d0<;>first|(simp_all[c8];done)|(simp only[c8]at h2;split at h2<;>cases h2)
theorem dv.int(h:dv P t d){k:IntKind}(hu:d.under=.int k)(w:ae):(underlying t).run P w=.ok (.int k) w:=by
 obtain⟨d0,h1,h2⟩:=h.rj w;rw[hu]at h2;cases d0<;>first|(simp_all[c8];done)|(simp only[c8]at h2;split at h2<;>cases h2)
theorem dv.pointer(h:dv P t d){e:TypeId}(hu:d.under=.pointer e)(w:ae):(underlying t).run P w=.ok (.pointer e) w:=by
 obtain⟨d0,h1,h2⟩:=h.rj w;rw[hu]at h2;cases d0<;>first|(simp_all[c8];done)|(simp only[c8]at h2;split at h2<;>cases h2)
theorem dv.map(h:dv P t d){k e:TypeId}(hu:d.under=.map k e)(w:ae):(underlying t).run P w=.ok (.map k e) w:=by
 obtain⟨d0,h1,h2⟩:=h.rj w;rw[hu]at h2;cases d0<;>first|(simp_all[c8];done)|(simp only[c8]at h2;split at h2<;>cases h2)
theorem dv.iface(h:dv P t d)(hu:d.under=.iface)(w:ae):∃ms,(underlying t).run P w=.ok (.interface ms) w:=by
 obtain⟨d0,h1,h2⟩:=h.rj w;rw[hu]at h2;cases d0<;>first|(simp_all[c8];done)|(simp only[c8]at h2;split at h2<;>cases h2)
theorem dv.func(h:dv P t d)(hu:d.under=.func)(w:ae):∃a b c,(underlying t).run P w=.ok (.func a b c) w:=by
 obtain⟨d0,h1,h2⟩:=h.rj w;rw[hu]at h2;cases d0<;>first|(simp_all[c8];done)|(simp only[c8]at h2;split at h2<;>cases h2)
theorem VG{d0:TypeDesc}{l:List (Nat×TypeId)}(h:c8 d0=.struct l):∃fs,d0=.struct fs/\(fs.any λf=>f.name == "_")=false/\l=fs.toList.map λf=>(f.offset,f.type):=by
 cases d0 with
 | struct fs =>
  simp only[c8]at h;cases hn:fs.any λf=>f.name == "_" with
  | true=>simp only[hn]at h;cases h
  | false=>simp only[hn]at h;cases h;exact⟨fs,rfl,hn,rfl⟩
 | _=>simp[c8]at h
theorem dv.struct(h:dv P t d){l:List (Nat×TypeId)}(hu:d.under=.struct l)(w:ae):∃fs,(underlying t).run P w=.ok (.struct fs) w/\l=fs.toList.map λf=>(f.offset,f.type):=by
 obtain⟨d0,h1,h2⟩:=h.rj w;obtain⟨fs,rfl,_,hl⟩:=VG (h2.trans hu);exact⟨fs,h1,hl⟩
theorem dv.mO(h:dv P t d)(w:ae):(sizeOf t).run P w=.ok d.size w:=by
 obtain⟨i,hi,hs,_⟩:=h.info;simp[sizeOf,typeInfo,hi,hs]
theorem dv.DP(h:dv P t d){z:ao}(hz:d.zero=some z)(w:ae):(zeroValue t).run P w=.ok z w:=by
 obtain⟨i,hi,_,_,h4⟩:=h.info;simp[zeroValue,typeInfo,hi,h4,hz]
end
structure Cx where
 P:Program
 T:List TD
 n:Nat
 live:au
 r:Option Nat:=none
theorem addr_add(b o n:Nat):(⟨b,o,none⟩:Addr).add n=⟨b,o+n,none⟩:=by
 unfold Addr.add;split
 ·rename_i h;subst h;rfl
 ·rfl
def qN:oY->Bool
 | .struct _|.array _ _|.blank=>true
 | _=>false
theorem dv.isAgg{P:Program}{t:TypeId}{d:TD}(h:dv P t d)(w:ae):(isAgg t).run P w=.ok (qN d.under) w:=by
 obtain⟨d0,h1,h2⟩:=h.rj w;unfold Go.isAgg;simp only[Sem.run_bind,h1,Result.andThen_ok,<-h2];cases d0 with
 | struct fs=>simp only[c8];cases(fs.any λf=>f.name == "_")<;>simp[qN]
 | _=>simp[c8,qN]
def FN(w:ae)(b:Nat):Nat->Nat->(aD->Prop)->Prop
 | 0,_,k=>k []
 | n+1,o,k=>∃v,w.cell? ⟨b,o,none⟩=some v/\FN w b n (o+1) λl=>k (v::l)
def KE(w:ae)(b o n:Nat)(k:aD->Prop):Prop :=
 ∃l:aD,l.length=n/\(∀j v,l[j]?=some v->w.cell? ⟨b,o+j,none⟩=some v)/\k l
theorem RY{w:ae}{b:Nat}:∀ {n o:Nat} {k:aD->Prop},FN w b n o k->KE w b o n k
 | 0,o,k,h=>⟨[],rfl,λj v hj=>by simp at hj,h⟩
 | n+1,o,k,⟨v,hv,h⟩=>by
  obtain⟨l,hl,hc,hk⟩:=RY h;refine⟨v::l,by simp[hl],λj u hj=>?_,hk⟩;cases j with
  | zero=>simp at hj;subst hj;exact hv
  | succ j =>
   simp at hj;have:=hc j u hj;rw[show o+(j+1)=o+1+j by omega];exact this
def vA(C:Cx)(t:TypeId)(v:ao)(w:ae)(k:ao->ae->Prop):Prop :=
 match v with
 | .pointer (some ⟨b,o,none⟩)=>eb C.T t λd =>
  match qN d.under with
  | true=>(match Nat.ble d.size 16 with
   | true=>FN w b d.size o λl=>k (.agg l.toArray) w
   | false=>KE w b o d.size λl=>k (.agg l.toArray) w)
  | false=>∃u,w.cell? ⟨b,o,none⟩=some u/\k u w
 | _=>False
theorem af8{d:TD}(hd:dv P t d)(ha:qN d.under=true){w:ae}{b o:Nat}{l:aD}
  (hl:l.length=d.size) (hc:∀j v,l[j]?=some v->w.cell? ⟨b,o+j,none⟩=some v):(loadVar t ⟨b,o,none⟩).run P w=.ok (.agg l.toArray) w:=by
 have h1:(isAgg t).run P w=.ok true w:=by rw[hd.isAgg,ha]
 have h2:=run_loadCells_list (P:=P) w ⟨b,o,none⟩ l (λj v hj=>by rw[addr_add];exact hc j v hj);rw[hl]at h2;simp[loadVar,h1,hd.mO,h2]
theorem af9{d:TD}(hd:dv P t d)(ha:qN d.under=false){w:ae}{a:Addr}{u:ao}
  (hc:w.cell? a=some u):(loadVar t a).run P w=.ok u w:=by
 have h1:(isAgg t).run P w=.ok false w:=by rw[hd.isAgg,ha]
 simp[loadVar,h1,hc]
theorem R0{C:Cx}(hT:bK C.P C.T){t:TypeId}{v:ao}{w:ae}{k:ao->ae->Prop}(h:vA C t v w k) :
  ∃a u,v=.pointer (some a)/\(loadVar t a).run C.P w=.ok u w/\k u w:=by
 unfold vA at h;split at h
 ·rename_i b o;replace h:=gp hT h;obtain⟨d,hd,h⟩:=h;split at h
  ·rename_i ha;have h':KE w b o d.size λl=>k (.agg l.toArray) w:=by
    split at h
    ·exact RY h
    ·exact h
   obtain⟨l,hl,hc,hk⟩:=h';exact⟨_,_,rfl,af8 hd ha hl hc,hk⟩
  ·rename_i ha;obtain⟨u,hu,hk⟩:=h;exact⟨_,_,rfl,af9 hd ha hu,hk⟩
 ·exact h.elim
theorem ach{C:Cx}(hT:bK C.P C.T){t:TypeId}{v:ao}{w:ae}{k:ao->ae->Prop}(h:vA C t v w k):bo C.P (Instr.loadAt t v) w k:=by
 obtain⟨a,u,rfl,hr,hk⟩:=R0 hT h;exact .of (by simp[Instr.loadAt,Instr.sureAddr,hr]) hk
def uS(v:ao)(k:aD->Prop):Prop:=match v with|.agg ⟨l⟩=>k l|v=>k [v]
theorem BQ{v:ao}{k:aD->Prop}(h:uS v k):k v.cells.toList:=by
 cases v<;>exact h
def FZ:aD->Prop->Prop
 | [],k=>k
 | v::r,k=>match v with|.agg _=>False|.tuple _=>False|_=>FZ r k
theorem SG:∀ {l:aD} {k:Prop},FZ l k->(∀v∈l,v.oneCell'=true)/\k
 | [],_,h=>⟨λ_ h=>by simp at h,h⟩
 | v::r,k,h=>by
  have key:v.oneCell'=true/\FZ r k:=by cases v<;>first|exact⟨rfl,h⟩|exact h.elim
  obtain⟨h1,h2⟩:=SG key.2;refine⟨λu hu=>?_,h2⟩;rcases bB.1 hu with rfl|hu
  ·exact key.1
  ·exact h1 u hu
def fS:aD->Nat->aD->(aD->Prop)->Prop
 | c,0,[],k=>k c
 | _::c,0,v::l,k=>fS c 0 l λr=>k (v::r)
 | u::c,o+1,l,k=>fS c o l λr=>k (u::r)
 | [],_,_,_=>False
theorem GK:∀ {c:aD} {o:Nat} {l:aD} {k:aD->Prop},fS c o l k->o+l.length<=c.length/\k (c.take o++l++c.drop (o+l.length))
 | c,0,[],k,h=>by
  have h:k c:=by cases c<;>exact h
  exact⟨ai,by simpa using h⟩
 | u::c,0,v::l,k,h=>by
  obtain⟨h1,h2⟩:=GK (c:=c) (o:=0) (l:=l) h;refine⟨by simp at h1 |-;omega,?_⟩;simpa [uk]using h2
 | u::c,o+1,l,k,h=>by
  have h':fS c o l λr=>k (u::r):=by cases l<;>exact h
  obtain⟨h1,h2⟩:=GK h';refine⟨by simp;omega,?_⟩;rw[show o+1+l.length=(o+l.length)+1 by omega];simpa using h2
 | [],0,v::l,k,h=>h.elim
 | [],o+1,l,k,h=>by cases l<;>exact h.elim
theorem agp{w:ae}{cs:Array ao}{l:aD}(h:oU w b cs t):ma w b l t (w.setRow b l.toArray):=by
 obtain⟨fz,h1,_⟩:=h;refine⟨fz,cs,h1,?_⟩;have hlt:=(jG.1 h1).1;have hv:w.heap[b]=.cells cs t fz:=(jG.1 h1).2;unfold World.setRow;congr 1;apply Array.ext
 ·simp
 ·intro i h1 h2;by_cases e:b=i
  ·subst e;simp[Ty,hv]
  ·rw[Array.getElem_setIfInBounds (by simpa using h1),Ty,if_neg e,if_neg e]
theorem GR(P:Program)(g o:Nat)(t:TypeId)(fz:Nat×Nat):∀(vs:aD) (i:Nat) (cur:Array ao) (w:ae),w.heap[g]?=some (.cells cur t fz)->Bx fz cur.size->o+i+vs.length<=cur.size->(∀v∈vs,v.oneCell'=true) ->
  (storeCells ⟨g,o,none⟩ vs i).run P w=.ok () (w.setRow g (cur.toList.take (o+i)++vs++cur.toList.drop (o+i+vs.length)).toArray)
 | [],i,cur,w,hg,_,_,_=>by
  simp only[storeCells,List.append_nil,List.length_nil,mK,eN,TG];rw[setRow_self w g cur t fz hg];rfl
 | v::rest,i,cur,w,hg,JH,hl,h1=>by
  have hi:o+i<cur.size:=by simp at hl;omega
  have aau:(⟨g,o,none⟩:Addr).add i=⟨g,o+i,none⟩:=by unfold Addr.add;split<;>simp_all
  have hcell:w.cell? ⟨g,o+i,none⟩=some cur[o+i]:=by simp[World.cell?,hg,hi]
  have aa6:w.frozen? ⟨g,o+i,none⟩=false:=by
   have hz:=JH (o+i) hi;obtain⟨lo,xJ⟩:=fz;simp only[World.frozen?,hg,Bool.and_eq_false_iff,decide_eq_false_iff_not];simp only at hz;omega
  have hst:(store ((⟨g,o,none⟩:Addr).add i) v).run P w=.ok () (w.setRow g (cur.setIfInBounds (o+i) v)):=by
   rw[aau,run_store P w _ v _ (h1 v ai),hcell];simp[aa6,setCell_eq_setRow w g (o+i) cur t fz v hg]
  have ih:=GR P g o t fz rest (i+1) (cur.setIfInBounds (o+i) v) (w.setRow g (cur.setIfInBounds (o+i) v)) (setRow_heap w g cur _ t _ hg) (by simpa using JH) (by simp at hl |-;omega) (λx hx=>h1 x (by simp[hx]));simp only[storeCells,Sem.run_bind,hst,Result.andThen_ok,ih,setRow_setRow];congr 3;have e:=list_seg_step cur.toList (o+i) v rest (by simp at hl |-;omega);simpa [aeI,Nat.add_assoc]using e
def My(C:Cx)(t:TypeId)(a v:ao)(w:ae)(k:ae->Prop):Prop :=
 match a with
 | .pointer (some ⟨b,o,none⟩)=>eb C.T t λd=>uS v λl =>
  match Nat.beq l.length d.size with
  | true=>FZ l (∃c t',nR w b c t'/\fS c o l λc'=>∀w',ma w b c' t' w'->k w')
  | false=>False
 | _=>False
theorem agY{C:Cx}(hT:bK C.P C.T){t:TypeId}{a v:ao}{w:ae}{k:ae->Prop}(h:My C t a v w k) :
  ∃w',(Instr.storeAt t a v).run C.P w=.ok () w'/\k w':=by
 unfold My at h;split at h
 ·rename_i b o;replace h:=gp hT h;obtain⟨d,hd,h⟩:=h;replace h:=BQ h;split at h
  ·rename_i hl;have hl:=pN hl;obtain⟨h1,c,t',hb,vt⟩:=SG h;obtain⟨hle,hk⟩:=GK vt;refine⟨_,?_,hk _ (agp hb)⟩;obtain⟨fz,fE,lE⟩:=hb;have hs:=GR C.P b o t' fz v.cells.toList 0 c.toArray w fE lE (by simpa using hle) h1;have hsz:v.cells.size=d.size:=by simpa using hl
   simp only[mK]at hs;simp only[Instr.storeAt,Instr.sureAddr,storeVar,Sem.run_bind,Sem.run_pure,Result.andThen_ok,hd.mO,hsz,ne_eq,not_true,if_false];simpa using hs
  ·exact h.elim
 ·exact h.elim
def Ee(d:TD)(k:ao->Prop):Prop:=match d.zero with|some z=>k z|none=>False
theorem Wy{d:TD}{k:ao->Prop}(h:Ee d k):∃z,d.zero=some z/\k z:=by
 unfold Ee at h;split at h
 ·rename_i z hz;exact⟨z,hz,h⟩
 ·exact h.elim
def NB(C:Cx)(t:TypeId)(w:ae)(k:ao->ae->Prop):Prop :=
 eb C.T t λd=>Ee d λz=>uS z λl=>∀w' b,qf w b l t w'->k (.pointer (some ⟨b,0,none⟩)) w'
theorem Xk{C:Cx}(hT:bK C.P C.T){t:TypeId}{w:ae}{k:ao->ae->Prop}(h:NB C t w k):bo C.P (Instr.alloc t true (.tuple #[])) w k:=by
 replace h:=gp hT h;obtain⟨d,hd,h⟩:=h;replace h:=Wy h;obtain⟨z,hz,h⟩:=h;replace h:=BQ h;refine .of (v:=.pointer (some ⟨w.heap.size,0,none⟩)) (w':=w.alloc (.cells z.cells.toList.toArray t)) ?_ (h _ _ ⟨rfl,rfl⟩);simp[Instr.alloc,hd.DP hz,newVar,newRow]
def NL(t:TypeId)(v:ao)(w:ae)(k:ao->ae->Prop):Prop :=
 uS v λl=>∀w' b,qf w b l t w'->k (.pointer (some ⟨b,0,none⟩)) w'
theorem XW{v:ao}{w:ae}{k:ao->ae->Prop}(h:NL t v w k):bo P (Instr.box t v) w k:=by
 replace h:=BQ h;refine .of (v:=.pointer (some ⟨w.heap.size,0,none⟩)) (w':=w.alloc (.cells v.cells.toList.toArray t)) ?_ (h _ _ ⟨rfl,rfl⟩);simp[Instr.box,newVar,newRow]
def bD(a:Option Addr):Nat:=match a with|some p=>p.block|none=>0
def bw(a:Option Addr):Nat:=match a with|some p=>p.off|none=>0
def Plain(a:Option Addr):Prop:=a=some ⟨bD a,bw a,none⟩
def placeOf(o i s:Nat):Nat:=match s with|1=>o+i|s=>o+i*s
theorem Ld(o i s:Nat):placeOf o i s=o+i*s:=by
 unfold placeOf;split
 ·simp
 ·rfl
def ye(C:Cx)(t:TypeId)(x i:ao)(w:ae)(k:ao->ae->Prop):Prop :=
 match i with
 | .int _ i=>eb C.T t λd =>
  match d.under,x with
  | .slice e,.slice a len _=>eb C.T e λde=>(0<=i/\i<(len:Int))/\Plain a/\k (.pointer (some ⟨bD a,placeOf (bw a) i.toNat de.size,none⟩)) w
  | .array len e,.pointer (some ⟨b,o,none⟩)=>eb C.T e λde=>(0<=i/\i<(len:Int))/\k (.pointer (some ⟨b,placeOf o i.toNat de.size,none⟩)) w
  | _,_=>False
 | _=>False
theorem abH{C:Cx}(hT:bK C.P C.T){t:TypeId}{x i:ao}{w:ae}{k:ao->ae->Prop}(h:ye C t x i w k):bo C.P (Instr.indexAt t x i) w k:=by
 unfold ye at h;split at h
 ·rename_i ki i;replace h:=gp hT h;obtain⟨d,hd,h⟩:=h;split at h
  ·rename_i e a len cap hu;replace h:=gp hT h;obtain⟨de,hde,hi,hp,hk⟩:=h;have cE:=hd.slice hu w;refine .of ?_ hk;rw[hp];simp[Instr.indexAt,asIntOf,cE,hi,hde.mO,addr_add,Ld,bD,bw]
  ·rename_i len e b o hu;replace h:=gp hT h;obtain⟨de,hde,hi,hk⟩:=h;have cE:=hd.array hu w;refine .of ?_ hk;simp[Instr.indexAt,Instr.sureAddr,asIntOf,cE,hi,hde.mO,addr_add,Ld]
  ·exact h.elim
 ·exact h.elim
def zT(C:Cx)(d:oY)(f:Nat)(k:Nat->TypeId->TD->Prop):Prop :=
 match d with
 | .struct fs=>(match fs[f]? with
  | some fl=>eb C.T fl.2 λdf=>k fl.1 fl.2 df
  | none=>False)
 | _=>False
def zS(C:Cx)(t:TypeId)(x:ao)(f:Nat)(w:ae)(k:ao->ae->Prop):Prop :=
 match x with
 | .pointer (some ⟨b,o,none⟩)=>eb C.T t λd=>zT C d.under f λoff _ df =>
  match df.size with
  | 0=>False
  | _+1=>k (.pointer (some ⟨b,o+off,none⟩)) w
 | _=>False
theorem Pu{C:Cx}(hT:bK C.P C.T){t:TypeId}{d:TD}(hd:dv C.P t d){f:Nat}{k:Nat->TypeId->TD->Prop}(h:zT C d.under f k)(w:ae) :
  ∃fs fl df,(underlying t).run C.P w=.ok (.struct fs) w/\fs[f]?=some fl/\dv C.P fl.type df/\k fl.offset fl.type df:=by
 unfold zT at h;split at h
 ·rename_i l hu;obtain⟨fs,hr,rfl⟩:=hd.struct hu w;split at h
  ·rename_i fl cJ;rw[eu]at cJ;cases hf:fs.toList[f]? with
   | none=>simp[hf]at cJ
   | some g =>
    simp only[hf,gA,kv]at cJ;subst cJ;obtain⟨df,hdf,hk⟩:=gp hT h;exact⟨fs,g,df,hr,by simpa using hf,hdf,hk⟩
  ·exact h.elim
 ·exact h.elim
theorem ZJ{C:Cx}(hT:bK C.P C.T){t:TypeId}{x:ao}{f:Nat}{w:ae}{k:ao->ae->Prop}(h:zS C t x f w k):bo C.P (Instr.fieldAt t x f) w k:=by
 unfold zS at h;split at h
 ·rename_i b o;replace h:=gp hT h;obtain⟨d,hd,h⟩:=h;replace h:=Pu hT hd h w;obtain⟨fs,fl,df,cE,cJ,hdf,hk⟩:=h;split at hk
  ·exact hk.elim
  ·rename_i m hm;refine .of ?_ hk;simp[Instr.fieldAt,Instr.sureAddr,cE,cJ,fieldPlace,hdf.mO,hm,addr_add]
 ·exact h.elim
def AL(d:TD)(off:Nat)(l:aD)(k:ao->Prop):Prop :=
 match qN d.under with
 | true=>k (.agg ((l.drop off).take d.size).toArray)
 | false=>(match l[off]? with|some v=>k v|none=>False)
def zU(C:Cx)(t:TypeId)(x:ao)(f:Nat)(w:ae)(k:ao->ae->Prop):Prop :=
 match x with
 | .agg ⟨l⟩=>eb C.T t λd=>zT C d.under f λoff _ df=>AL df off l λv=>k v w
 | _=>False
theorem SQ{d:TD}(hd:dv P t d){off:Nat}{l:aD}{w:ae}{k:ao->Prop}(h:AL d off l k) :
  ∃v,(part t ⟨l⟩ off).run P w=.ok v w/\k v:=by
 unfold AL at h;split at h
 ·rename_i ha;have h1:(isAgg t).run P w=.ok true w:=by rw[hd.isAgg,ha]
  refine⟨_,?_,h⟩;simp only[part,Sem.run_bind,h1,Result.andThen_ok,if_true,hd.mO,Sem.run_pure];congr 2;apply qZ;simp
 ·rename_i ha;have h1:(isAgg t).run P w=.ok false w:=by rw[hd.isAgg,ha]
  split at h
  ·rename_i v hv;refine⟨v,?_,h⟩;have CX:(⟨l⟩:Array ao)[off]?=some v:=by simpa using hv
   simp[part,h1,CX]
  ·exact h.elim
theorem ZL{C:Cx}(hT:bK C.P C.T){t:TypeId}{x:ao}{f:Nat}{w:ae}{k:ao->ae->Prop}(h:zU C t x f w k):bo C.P (Instr.field t x f) w k:=by
 unfold zU at h;split at h
 ·rename_i l;replace h:=gp hT h;obtain⟨d,hd,h⟩:=h;replace h:=Pu hT hd h w;obtain⟨fs,fl,df,cE,cJ,hdf,hk⟩:=h;obtain⟨v,hr,hk⟩:=SQ (w:=w) hdf hk;refine .of ?_ hk;simp[Instr.field,cE,cJ,asAgg,hr]
 ·exact h.elim
def yf(C:Cx)(t:TypeId)(x i:ao)(w:ae)(k:ao->ae->Prop):Prop :=
 match i with
 | .int _ i=>eb C.T t λd =>
  match d.under,x with
  | .string,.string ⟨⟨l⟩⟩=>0<=i/\∃c:UInt8,l[i.toNat]?=some c/\k (.int .u8 (c.toNat:Int)) w
  | .array len e,.agg ⟨l⟩=>eb C.T e λde=>(0<=i/\i<(len:Int))/\AL de (i.toNat*de.size) l λv=>k v w
  | _,_=>False
 | _=>False
theorem abN{C:Cx}(hT:bK C.P C.T){t:TypeId}{x i:ao}{w:ae}{k:ao->ae->Prop}(h:yf C t x i w k):bo C.P (Instr.index t x i) w k:=by
 unfold yf at h;split at h
 ·rename_i ki i;replace h:=gp hT h;obtain⟨d,hd,h⟩:=h;split at h
  ·rename_i l hu;obtain⟨hi,c,hc,hk⟩:=h;have cE:=hd.string hu w;have hc':(ByteArray.mk ⟨l⟩)[i.toNat]?=some c:=by
    have hlt:i.toNat<l.length:=(cW.1 hc).1;have jZ:i.toNat<(ByteArray.mk ⟨l⟩).size:=hlt;rw[ByteArray.getElem?_lt' _ _ jZ];have:=(cW.1 hc).2;exact congrArg some this
   refine .of ?_ hk;simp[Instr.index,asIntOf,cE,hi,hc']
  ·rename_i len e l hu;replace h:=gp hT h;obtain⟨de,hde,hi,hk⟩:=h;have cE:=hd.array hu w;obtain⟨v,hr,hk⟩:=SQ (w:=w) hde hk;refine .of ?_ hk;simp[Instr.index,asIntOf,cE,hi,hde.mO,hr]
  ·exact h.elim
 ·exact h.elim
def oy:aD->Nat->(ao->Prop)->Prop
 | [],_,_=>False
 | v::_,0,k=>k v
 | _::r,i+1,k=>oy r i k
theorem Dn{l:aD}{k:ao->Prop}:oy l i k↔∃v,l[i]?=some v/\k v:=by
 induction l generalizing i with
 | nil=>simp[oy]
 | cons d r ih =>
  cases i with
  | zero=>simp[oy]
  | succ t=>simp only[oy,vJ];exact ih
def Ca(x:ao)(i:Nat)(w:ae)(k:ao->ae->Prop):Prop :=
 match x with
 | .tuple ⟨l⟩=>oy l i λv=>k v w
 | _=>False
theorem ZG{x:ao}{w:ae}{k:ao->ae->Prop}(h:Ca x i w k):bo P (Instr.extract x i) w k:=by
 unfold Ca at h;split at h
 ·rename_i l;obtain⟨v,hv,hk⟩:=Dn.1 h;have CX:(⟨l⟩:Array ao)[i]?=some v:=by simpa using hv
  refine .of ?_ hk;simp[Instr.extract,CX]
 ·exact h.elim
abbrev dx(x:Int):Prop := -9223372036854775808<=x/\x<=9223372036854775807
def wr(k:IntKind)(x:Int):Int :=
 match k with
 | .u8=>x%256|.u16=>x%65536|.u32=>x%4294967296|.u64=>x%18446744073709551616
 | k=>k.wrap x
theorem Ec(k:IntKind)(x:Int):wr k x=k.wrap x:=by
 cases k<;>simp[wr,IntKind.wrap,IntKind.bits,IntKind.signed]
theorem wrap_i64{x:Int}(h:dx x):IntKind.i64.wrap x=x:=by
 obtain⟨h1,h2⟩:=h;have key:∀m p:Int,m=18446744073709551616->p=9223372036854775808->(if(true&&decide (x%m>=p))=true then x%m-m else x%m)=x:=by
  rintro m p rfl rfl;simp only[Bool.true_and,ge_iff_le,decide_eq_true_eq];split<;>omega
 exact key (2^64) (2^63) ag ag
def pd(k:IntKind)(x:Int)(c:ao->Prop):Prop :=
 match k with
 | .i64=>dx x/\c (.int .i64 x)
 | k=>c (.int k (wr k x))
theorem tu{x:Int}{c:ao->Prop}(h:pd k x c):c (.int k (k.wrap x)):=by
 cases k<;>first
  | (rw[<-Ec];exact h)
  | (rw[wrap_i64 h.1];exact h.2)
def bN(op:BinOp)(k:IntKind)(x y:Int):Int :=
 let a:=BitVec.ofInt k.bits x
 let b:=BitVec.ofInt k.bits y
 k.wrap (match op with
  | .and=>a&&&b
  | .or=>a|||b
  | .xor=>a ^^^ b
  | _=>a &&& ~~~b).toNat
def qM(op:BinOp)(k:IntKind)(x y:Int)(c:ao->Prop):Prop :=
 match op with
 | .add=>pd k (x+y) c
 | .sub=>pd k (x-y) c
 | .mul=>pd k (x*y) c
 | .quo=>((0<=x/\0<y)/\pd k (x/y) c)\/(0<y/\pd k (x.tdiv y) c)
 | .rem=>((0<=x/\0<y)/\c (.int k (x%y)))\/(0<y/\c (.int k (x.tmod y)))
 | .and=>c (.int k (bN .and k x y))
 | .or=>c (.int k (bN .or k x y))
 | .xor=>c (.int k (bN .xor k x y))
 | .andNot=>c (.int k (bN .andNot k x y))
 | .eql=>c (.bool (decide (x=y)))
 | .neq=>c (.bool (decide (x≠y)))
 | .lss=>c (.bool (decide (x<y)))
 | .leq=>c (.bool (decide (x<=y)))
 | .gtr=>c (.bool (decide (y<x)))
 | .geq=>c (.bool (decide (y<=x)))
 | .shl=>(0<=y/\y<=64)/\pd k (x*2^(min y.toNat k.bits)) c
 | .shr=>(0<=y/\y<=64)/\c (.int k (x/2^(min y.toNat k.bits)))
theorem abP{x y:Int}{w:ae}{c:ao->ae->Prop}(h:qM op k x y λv=>c v w) :
  bo P (binOp op t (.int k x) (.int k y)) w c:=by
 cases op;case add=>exact .of (v:=.int k (k.wrap (x+y))) (w':=w) (by simp[binOp,Op.intArith]) (tu (k:=k) (x:=x+y) (c:=λv=>c v w) h)
 case sub=>exact .of (v:=.int k (k.wrap (x-y))) (w':=w) (by simp[binOp,Op.intArith]) (tu (k:=k) (x:=x-y) (c:=λv=>c v w) h)
 case mul=>exact .of (v:=.int k (k.wrap (x*y))) (w':=w) (by simp[binOp,Op.intArith]) (tu (k:=k) (x:=x*y) (c:=λv=>c v w) h)
 case quo =>
  rcases h with⟨⟨h1,h2⟩,h⟩|⟨h2,h⟩
  rotate_left
  ·exact .of (v:=.int k (k.wrap (x.tdiv y))) (w':=w) (by simp[binOp,Op.intDiv,show y≠0 by omega]) (tu (k:=k) (x:=x.tdiv y) (c:=λv=>c v w) h)
  have e:x.tdiv y=x/y:=Int.tdiv_eq_ediv_of_nonneg h1;exact .of (v:=.int k (k.wrap (x.tdiv y))) (w':=w) (by simp[binOp,Op.intDiv,show y≠0 by omega]) (by rw[e];exact tu (k:=k) (x:=x/y) (c:=λv=>c v w) h)
 case rem =>
  rcases h with⟨⟨h1,h2⟩,h⟩|⟨h2,h⟩
  rotate_left
  ·exact .of (v:=.int k (x.tmod y)) (w':=w) (by simp[binOp,Op.intDiv,show y≠0 by omega]) h
  have e:x.tmod y=x%y:=Int.tmod_eq_emod_of_nonneg h1;exact .of (v:=.int k (x.tmod y)) (w':=w) (by simp[binOp,Op.intDiv,show y≠0 by omega]) (by rw[e];exact h)
 case and=>exact .of (v:=.int k (bN .and k x y)) (w':=w) (by simp[binOp,Op.intBits,bN]) h
 case or=>exact .of (v:=.int k (bN .or k x y)) (w':=w) (by simp[binOp,Op.intBits,bN]) h
 case xor=>exact .of (v:=.int k (bN .xor k x y)) (w':=w) (by simp[binOp,Op.intBits,bN]) h
 case andNot=>exact .of (v:=.int k (bN .andNot k x y)) (w':=w) (by simp[binOp,Op.intBits,bN]) h
 case eql=>exact .of (v:=.bool (decide (x=y))) (w':=w) (by simp[binOp,Op.intCmp];by_cases e:x=y<;>simp[e]) h
 case neq=>exact .of (v:=.bool (decide (x≠y))) (w':=w) (by simp[binOp,Op.intCmp];by_cases e:x=y<;>simp[e]) h
 case lss=>exact .of (v:=.bool (decide (x<y))) (w':=w) (by simp[binOp,Op.intCmp]) h
 case leq=>exact .of (v:=.bool (decide (x<=y))) (w':=w) (by simp[binOp,Op.intCmp]) h
 case gtr=>exact .of (v:=.bool (decide (y<x))) (w':=w) (by simp[binOp,Op.intCmp]) h
 case geq=>exact .of (v:=.bool (decide (y<=x))) (w':=w) (by simp[binOp,Op.intCmp]) h
 case shl =>
  obtain⟨h1,h⟩:=h;exact .of (v:=.int k (k.wrap (x*2^(min y.toNat k.bits)))) (w':=w) (by simp[binOp,Op.shift,show ¬y<0 by omega]) (tu (k:=k) (c:=λv=>c v w) h)
 case shr =>
  obtain⟨h1,h⟩:=h;refine .of (v:=.int k (x.fdiv (2^(min y.toNat k.bits)))) (w':=w) (by simp[binOp,Op.shift,show ¬y<0 by omega]) ?_;rw[Int.fdiv_eq_ediv_of_nonneg _ (Int.pow_nonneg ag)];exact h
def aU(a:Option Addr)(l m size:Nat):Option Addr:=if m=l then a else a.map λp=>p.add (l*size)
theorem ag3(l m size:Nat):aU none l m size=none:=by unfold aU;split<;>rfl
theorem yV(h:Plain a){l m size:Nat}:Plain (aU a l m size):=by
 unfold aU;split
 ·exact h
 ·rw[h];simp[Plain,bD,bw,addr_add]
theorem yT{l m size:Nat}:bD (aU a l m size)=bD a:=by
 unfold aU;split
 ·rfl
 ·cases a with
  | none=>rfl
  | some p=>simp only[gA,bD,Addr.add];split<;>rfl
theorem yU(h:Plain a){l m size:Nat}(hm:m≠l):bw (aU a l m size)=bw a+l*size:=by
 unfold aU;rw[if_neg hm,h];simp[bw,addr_add]
def lx(x:Option ao)(dflt:Nat)(most:Nat)(k:Nat->Prop):Prop :=
 match x with
 | none=>k dflt
 | some (.int _ i)=>(0<=i/\i<=(most:Int))/\k i.toNat
 | _=>False
theorem zA{v:ao}{y d:Nat}{k:Nat->Prop}{code:BoundsCode}{w:ae}(h:lx (some v) d y k):∃n,n<=y/\(Instr.sliceBound v y code).run P w=.ok n w/\k n:=by
 unfold lx at h;split at h
 ·rename_i hx;cases hx
 ·rename_i q i hx;cases hx;exact⟨i.toNat,aa,by simp[Instr.sliceBound,asIntOf,h.1],h.2⟩
 ·exact h.elim
def wu(C:Cx)(t:TypeId)(x:ao)(lo hi mx:Option ao)(w:ae)(k:ao->ae->Prop):Prop :=
 eb C.T t λd=>match d.under,x with
  | .string,.string ⟨⟨b⟩⟩=>(match mx with
   | none=>lx hi b.length b.length λh=>lx lo 0 h λl=>k (.string ⟨⟨(b.take h).drop l⟩⟩) w
   | some _=>False)
  | .slice e,.slice a len cap=>eb C.T e λde=>(match mx with
   | none=>lx hi len cap λh=>lx lo 0 h λl=>(l<=h)/\k (.slice (aU a l cap de.size) (h-l) (cap-l)) w
   | some mx=>lx (some mx) cap cap λm=>(match hi with
    | some hi=>lx (some hi) len m λh=>lx lo 0 h λl=>k (.slice (aU a l m de.size) (h-l) (m-l)) w
    | none=>False))
  | .array n e,.pointer (some ⟨b,o,none⟩)=>eb C.T e λde=>(match mx with
   | none=>lx hi n n λh=>lx lo 0 h λl=>k (.slice (aU (some ⟨b,o,none⟩) l n de.size) (h-l) (n-l)) w
   | some _=>False)
  | _,_=>False
theorem Mk{isS:Bool}{len cap:Nat}{lo hi:Option ao}{k:Nat->Nat->Prop}{w:ae}
  (h:lx hi len cap λh=>lx lo 0 h λl=>k l h):∃l h,(Instr.sliceBounds isS len cap lo hi none).run P w=.ok (l,h,cap) w/\k l h:=by
 cases hi with
 | none =>
  cases lo with
  | none=>exact⟨0,len,by simp[Instr.sliceBounds],h⟩
  | some v =>
   have h:lx (some v) 0 len λl=>k l len:=h;obtain⟨l,hle,hr,hk⟩:=zA (P:=P) (w:=w) (code:=.sliceB) (d:=0) h;exact⟨l,len,by simp[Instr.sliceBounds,hr],hk⟩
 | some u =>
  obtain⟨m,hle,hr,h⟩:=zA (P:=P) (w:=w) (code:=if isS then .sliceAcap else .sliceAlen) (d:=len) h;cases lo with
  | none=>exact⟨0,m,by simp[Instr.sliceBounds,hr],h⟩
  | some v =>
   obtain⟨l,hle,hr',hk⟩:=zA (P:=P) (w:=w) (code:=.sliceB) (d:=0) h;exact⟨l,m,by simp[Instr.sliceBounds,hr,hr'],hk⟩
theorem agA{C:Cx}(hT:bK C.P C.T){t:TypeId}{x:ao}{lo hi mx:Option ao}{w:ae}{k:ao->ae->Prop}(h:wu C t x lo hi mx w k) :
  bo C.P (Instr.sliceAt t x lo hi mx) w k:=by
 replace h:=gp hT h;obtain⟨d,hd,h⟩:=h;split at h
 ·rename_i b hu;have cE:=hd.string hu w;split at h
  ·obtain⟨l,h',hr,hk⟩:=Mk (P:=C.P) (isS:=false) (w:=w) (k:=λl h=>k (.string ⟨⟨(b.take h).drop l⟩⟩) w) h;refine .of (v:=.string ⟨⟨(b.take h').drop l⟩⟩) (w':=w) ?_ hk;have hsz:(ByteArray.mk ⟨b⟩).size=b.length:=rfl;have hex:(ByteArray.mk ⟨b⟩).extract l h'=⟨⟨(b.take h').drop l⟩⟩:=by
    have:=ByteArray.extract_mk b l h';rw[List.drop_take];exact this
   simp only[Instr.sliceAt,Instr.slice,Sem.run_bind,cE,Result.andThen_ok,hsz,hr,Option.isSome_none,Bool.false_eq_true,if_false,Sem.run_pure,hex]
  ·exact h.elim
 ·rename_i e a len cap hu;have cE:=hd.slice hu w;replace h:=gp hT h;obtain⟨de,hde,h⟩:=h;split at h
  ·obtain⟨l,h',hr,hle,hk⟩:=Mk (P:=C.P) (isS:=true) (w:=w) (k:=λl h=>l<=h/\k (.slice (aU a l cap de.size) (h-l) (cap-l)) w) h;refine .of ?_ hk;simp[Instr.sliceAt,Instr.slice,cE,hr,hde.mO,aU]
  ·rename_i mx;obtain⟨m,_,eK,h⟩:=zA (P:=C.P) (w:=w) (code:=.slice3Acap) h;split at h
   ·rename_i hi;obtain⟨h',_,hr1,h⟩:=zA (P:=C.P) (w:=w) (code:=.slice3B) h;cases lo with
    | none =>
     refine .of (v:=.slice (aU a 0 m de.size) (h'-0) (m-0)) (w':=w) ?_ h;simp[Instr.sliceAt,Instr.slice,Instr.sliceBounds,cE,eK,hr1,hde.mO,aU]
    | some v =>
     obtain⟨l,_,hr2,hk⟩:=zA (P:=C.P) (w:=w) (code:=.slice3C) h;refine .of ?_ hk;simp[Instr.sliceAt,Instr.slice,Instr.sliceBounds,cE,eK,hr1,hr2,hde.mO,aU]
   ·exact h.elim
 ·rename_i n e b o hu;have cE:=hd.array hu w;replace h:=gp hT h;obtain⟨de,hde,h⟩:=h;split at h
  ·obtain⟨l,h',hr,hk⟩:=Mk (P:=C.P) (isS:=false) (w:=w) (k:=λl h=>k (.slice (aU (some ⟨b,o,none⟩) l n de.size) (h-l) (n-l)) w) h;refine .of ?_ hk;simp only[Instr.sliceAt,Instr.sureAddr,Sem.run_bind,cE,hr,hde.mO,Result.andThen_ok,Sem.run_pure,aU];split<;>rfl
  ·exact h.elim
 ·exact h.elim
def xh(C:Cx)(fs:List (Nat×TypeId)):List (Nat×ao)->aD->(aD->Prop)->Prop
 | [],c,k=>k c
 | (i,v)::r,c,k=>match fs[i]? with
  | some f=>eb C.T f.2 λdf=>uS v λl=>(match Nat.beq l.length df.size with
   | true=>fS c f.1 l λc'=>xh C fs r c' k
   | false=>False)
  | none=>False
theorem PT(off:Nat):∀(l:aD) (k:Nat) (acc:Array ao),off+k+l.length<=acc.size ->
  ((l.zipIdx k).foldl (λcs p=>cs.setIfInBounds (off+p.2) p.1) acc).toList=acc.toList.take (off+k)++l++acc.toList.drop (off+k+l.length)
 | [],k,acc,_=>by simp
 | v::l,k,acc,h=>by
  simp only[av]at h;rw[List.zipIdx_cons,List.foldl_cons,PT off l (k+1) _ (by simp;omega)];have hlt:off+k<acc.toList.length:=by simp;omega
  simp only[aeI,List.set_eq_take_append_cons_drop,hlt,if_true];generalize hA:acc.toList=A at hlt |-;have key:∀(p q:aD) (n m:Nat),p.length=n->(p++v::q).take (n+1)=p++[v]/\(p++v::q).drop (n+1+m)=q.drop m:=by
   rintro p q n m rfl;refine⟨by rw[List.take_append,bR aa];simp,?_⟩;rw[List.drop_append,pW aa,show p.length+1+m-p.length=m+1 by omega];simp
  obtain⟨k1,k2⟩:=key (A.take (off+k)) (A.drop (off+k+1)) (off+k) l.length (by simp;omega);rw[show off+(k+1)=off+k+1 by omega,k1,k2,oC];simp only[bJ,aL,aA,av];rw[show off+k+1+l.length=off+k+(l.length+1)by omega]
theorem Uk{places:Nat->Option (Nat×Nat)}{c:aD}{i off size:Nat}{v:ao}{r:List (Nat×ao)}(hp:places i=some (off,size))(hs:v.cells.size=size)(hle:off+v.cells.size<=c.length) :
  Instr.fill places ⟨c⟩ ((i,v)::r)=Instr.fill places ⟨c.take off++v.cells.toList++c.drop (off+v.cells.toList.length)⟩ r:=by
 have h1:¬(v.cells.size≠size):=by simp[hs]
 have h2:¬(off+v.cells.size>c.length):=aa;have key:=PT off v.cells.toList 0 ⟨c⟩ (by simpa using hle);simp only[mK]at key;have e:(v.cells.zipIdx.foldl (λcs (p:ao×Nat)=>cs.setIfInBounds (off+p.2) p.1) (⟨c⟩:Array ao))=⟨c.take off++v.cells.toList++c.drop (off+v.cells.toList.length)⟩:=by
  apply qZ;rw[<-Array.foldl_toList,Array.toList_zipIdx];exact key
 simp only[Instr.fill,hp];rw[if_neg (by simp[hs];simpa [hs]using hle)];rw[<-e]
theorem Pz{C:Cx}(hT:bK C.P C.T){fs:List (Nat×TypeId)}{places:Array (Nat×Nat)}
  (hpl:∀(i:Nat) (f:Nat×TypeId),fs[i]?=some f->∀df,dv C.P f.2 df->places[i]?=some (f.1,df.size)):∀ {ps:List (Nat×ao)} {c:aD} {k:aD->Prop},xh C fs ps c k ->
  ∃c',Instr.fill (places[·]?) ⟨c⟩ ps=some ⟨c'⟩/\k c'
 | [],c,k,h=>⟨c,rfl,h⟩
 | (i,v)::r,c,k,h=>by
  simp only[xh]at h;split at h
  ·rename_i f hf;replace h:=gp hT h;obtain⟨df,hdf,h⟩:=h;replace h:=BQ h;split at h
   ·rename_i hl;have hl:=pN hl;obtain⟨hle,h⟩:=GK h;obtain⟨c',h1,h2⟩:=Pz hT hpl h;refine⟨c',?_,h2⟩;rw[Uk (hpl i f hf df hdf) (by simpa using hl) (by simpa using hle)];exact h1
   ·exact h.elim
  ·exact h.elim
theorem run_places{C:Cx}{w:ae}:∀(fs:List Field),(∀f∈fs,∃df,dv C.P f.type df) ->
  ∃l:List (Nat×Nat),((fs.mapM λf=>do pure (f.offset,<-sizeOf f.type):Sem (List (Nat×Nat)))).run C.P w=.ok l w /\
   ∀(i:Nat) (f:Field),fs[i]?=some f->∀df,dv C.P f.type df->l[i]?=some (f.offset,df.size)
 | [],_=>⟨[],ai,ai⟩
 | f::fs,h=>by
  obtain⟨df,hdf⟩:=h f ai;obtain⟨l,hl,hi⟩:=run_places (w:=w) fs (λg hg=>h g (by simp[hg]));refine⟨(f.offset,df.size)::l,by rw[List.mapM_cons];simp only[Sem.run_bind,hdf.mO,Result.andThen_ok,Sem.run_pure,hl],?_⟩;intro i g hg dg iA;cases i with
  | zero =>
   simp at hg;subst hg;have h1:=hdf.mO w;have h2:=iA.mO w;rw[h1]at h2;simp only[Result.ok.injEq,and_true]at h2;simp[h2]
  | succ i=>simp at hg |-;exact hi i g hg dg iA
def Ei(C:Cx):List (Nat×TypeId)->Prop->Prop
 | [],k=>k
 | f::r,k=>eb C.T f.2 λ_=>Ei C r k
theorem Nz{C:Cx}(hT:bK C.P C.T):∀ {fs:List (Nat×TypeId)} {k:Prop},Ei C fs k->(∀f∈fs,∃df,dv C.P f.2 df)/\k
 | [],_,h=>⟨ai,h⟩
 | f::r,k,h=>by
  obtain⟨d,hd,h⟩:=gp hT h;obtain⟨h1,h2⟩:=Nz hT h;exact⟨λg hg=>(bB.1 hg).elim (λe=>e▸⟨d,hd⟩) (λhg=>h1 g hg),h2⟩
def BN(C:Cx)(t:TypeId)(ps:List (Nat×ao))(w:ae)(k:ao->ae->Prop):Prop :=
 eb C.T t λd=>Ee d λz=>(match d.under,z with
  | .struct fs,.agg ⟨c⟩=>Ei C fs (xh C fs ps c λc'=>k (.agg ⟨c'⟩) w)
  | .array _ _,_=>bo C.P (Instr.build t ps.toArray) w k
  | _,_=>False)
theorem XZ{C:Cx}(hT:bK C.P C.T){t:TypeId}{ps:List (Nat×ao)}{w:ae}{k:ao->ae->Prop}(h:BN C t ps w k):bo C.P (Instr.build t ps.toArray) w k:=by
 replace h:=gp hT h;obtain⟨d,hd,h⟩:=h;replace h:=Wy h;obtain⟨z,hz,h⟩:=h;split at h
 ·rename_i fs c hu;obtain⟨xm,cE,rfl⟩:=hd.struct hu w;obtain⟨hall,h⟩:=Nz hT h;obtain⟨l,hl,hi⟩:=run_places (C:=C) (w:=w) xm.toList (λf hf=>hall (f.offset,f.type) (List.mem_map.2 ⟨f,hf,rfl⟩));obtain⟨c',hc,hk⟩:=Pz hT (places:=l.toArray) (λi f hf df hdf=>by
   rw[eu]at hf;cases hg:xm.toList[i]? with
   | none=>simp[hg]at hf
   | some g =>
    simp only[hg,gA,kv]at hf;subst hf;simpa using hi i g hg df hdf) h
  refine .of (v:=.agg ⟨c'⟩) (w':=w) ?_ hk;simp only[Instr.build,Sem.run_bind,hd.DP hz,Result.andThen_ok,cE];rw[<-TG (xs:=xm),Array.mapM_eq_mapM_toList];simp only[Sem.run_map,hl,Result.andThen_ok,Value.cells,hc,Sem.run_pure]
 ·exact h
 ·exact h.elim
def Eu(sz:Nat):Nat->List (Nat×ao)->(aD->Prop)->Prop
 | _,[],k=>k []
 | i,(j,v)::r,k=>match Nat.beq i j with
  | true=>uS v λl=>(match Nat.beq l.length sz with
   | true=>Eu sz (i+1) r λm=>(match l with|[u]=>k (u::m)|l=>k (l++m))
   | false=>False)
  | false=>False
theorem NM{sz n:Nat}:∀ {ps:List (Nat×ao)} {i:Nat} {c:aD} {k:aD->Prop},c.length=n*sz->ps.length+i=n->Eu sz i ps k ->
  ∃l,l.length=ps.length*sz/\Instr.fill (λi=>some (i*sz,sz)) ⟨c⟩ ps=some ⟨c.take (i*sz)++l⟩/\k l
 | [],i,c,k,hc,hn,h=>⟨[],ai,by simp at hn;subst hn;simp[Instr.fill,<-hc],h⟩
 | (j,v)::r,i,c,k,hc,hn,h=>by
  simp only[Eu]at h;split at h
  ·rename_i xL;have xL:=pN xL;subst xL;replace h:=BQ h;split at h
   ·rename_i hl;have hl:v.cells.size=sz:=by simpa using pN hl
    simp only[av]at hn;have hle:i*sz+v.cells.size<=c.length:=by
     rw[hc,hl,<-mL];exact Nat.mul_le_mul_right _ aa
    have CY:v.cells.toList.length=sz:=by simpa using hl
    have hc':(c.take (i*sz)++v.cells.toList++c.drop (i*sz+v.cells.toList.length)).length=n*sz:=by
     simp only[aq,bb,bd,CY];omega
    obtain⟨l,h1,h2,h3⟩:=NM hc' aa h;refine⟨v.cells.toList++l,by simp[CY,h1,mL,uk],?_,?_⟩
    ·rw[Uk (off:=i*sz) (size:=sz) rfl hl hle,h2];have:(c.take (i*sz)++v.cells.toList++c.drop (i*sz+v.cells.toList.length)).take ((i+1)*sz)=c.take (i*sz)++v.cells.toList:=by
      rw[List.take_append_of_le_length (by simp[hl,mL];omega),bR (by simp[hl,mL];omega)]
     rw[this,bJ]
    ·revert h3;generalize v.cells.toList=q;intro h3;split at h3
     ·exact h3
     ·exact h3
   ·exact h.elim
  ·exact h.elim
def NN(C:Cx)(t:TypeId)(n:Nat)(ps:List (Nat×ao))(w:ae)(k:ao->ae->Prop):Prop :=
 eb C.T t λd=>match d.under with
  | .slice e=>eb C.T e λde=>(match Nat.ble (n*de.size) 16777216,Nat.beq ps.length n,de.zero with
   | true,true,some z=>(match Nat.beq z.cells.size de.size with
    | true=>Eu de.size 0 ps λl=>∀w' b,qf w b l e w'->k (.slice (some ⟨b,0,none⟩) n n) w'
    | false=>False)
   | _,false,_=>bo C.P (Instr.buildSlice t n ps.toArray) w k
   | _,_,_=>False)
  | _=>False
theorem XY{C:Cx}(hT:bK C.P C.T){t:TypeId}{n:Nat}{ps:List (Nat×ao)}{w:ae}{k:ao->ae->Prop}(h:NN C t n ps w k):bo C.P (Instr.buildSlice t n ps.toArray) w k:=by
 replace h:=gp hT h;obtain⟨d,hd,h⟩:=h;split at h
 ·rename_i e hu;have cE:=hd.slice hu w;replace h:=gp hT h;obtain⟨de,hde,h⟩:=h;split at h
  ·rename_i z h1 h2 hz;split at h
   ·rename_i hzs;have h1:=Nat.le_of_ble_eq_true h1;have h2:=pN h2;have hn:¬(n*de.size>2^24):=aa;have base:∀q:Array ao,((Array.range (n*de.size)).map (q[·%q.size]!)).toList.length=n*de.size:=ai;obtain⟨Z,hZ⟩:∃Z:Array ao,((if n*de.size=0 then pure #[]else do pure (<-zeroValue e).cells:Sem (Array ao))).run C.P w=.ok Z w:=by
     by_cases hz0:n*de.size=0
     ·exact⟨#[],by simp[hz0]⟩
     ·exact⟨z.cells,by rw[if_neg hz0];simp[hde.DP hz]⟩
    obtain⟨l,g1,g2,g3⟩:=NM (n:=n) (c:=((Array.range (n*de.size)).map (Z[·%Z.size]!)).toList) (base _) aa h;simp only[Nat.zero_mul,List.take_zero,aA]at g2;have PW:Instr.fill (λi=>some (i*de.size,de.size)) ((Array.range (n*de.size)).map (Z[·%Z.size]!)) ps=some ⟨l⟩:=g2;refine .of (v:=.slice (some ⟨w.heap.size,0,none⟩) n n) (w':=w.alloc (.cells l.toArray e)) ?_ (g3 _ _ ⟨rfl,rfl⟩);unfold Instr.buildSlice;simp only[Sem.run_bind,cE,Result.andThen_ok,hde.mO,hn,if_false];by_cases hz0:n*de.size=0
    ·rw[if_pos hz0]at hZ |-;simp only[Sem.run_pure,Result.ok.injEq,and_true]at hZ;subst hZ;simp only[Sem.run_bind,Sem.run_pure,Result.andThen_ok,PW];simp[newRow]
    ·rw[if_neg hz0]at hZ |-;simp only[Sem.run_bind,hde.DP hz,Sem.run_pure,Result.andThen_ok,Result.ok.injEq,and_true]at hZ |-;subst hZ;simp only[PW];simp[newRow]
   ·exact h.elim
  ·exact h
  ·exact h.elim
 ·exact h.elim
def Cells(w:ae)(a:Option Addr)(l:aD):Prop :=
 (l≠[]->Plain a)/\∀j v,l[j]?=some v->w.cell? ⟨bD a,bw a+j,none⟩=some v
theorem Cells.ext{w w':ae}{l:aD}(h:Cells w a l)(he:Ext w w'):Cells w' a l :=
 ⟨h.1,λj v hj=>by have:=h.2 j v hj;rw[he.cell (World.block_lt_of_cell? _ _ this)];exact this⟩
abbrev bv(b:UInt8):ao:=.int .u8 (b.toNat:Int)
abbrev PK:=(p:Prop)->Decidable p->Prop
def yP(u:oY)(x y:ao)(k:PK):Prop :=
 match u,x,y with
 | .int _,.int ka a,.int kb b=>(match decide (ka=kb)with|true=>k (a=b) inferInstance|false=>False)
 | .string,.string ⟨⟨a⟩⟩,.string ⟨⟨b⟩⟩=>k (a=b) inferInstance
 | .bool,.bool a,.bool b=>k (a=b) inferInstance
 | _,_,_=>False
theorem age{d:TD}(hd:dv P t d){x y:ao}{k:PK}(h:yP d.under x y k)(w:ae)(m:Nat) :
  ∃(p:Prop) (i:Decidable p),(Op.equalIn (m+1) t x y).run P w=.ok (@decide p i) w/\qN d.under=false/\k p i:=by
 unfold yP at h;split at h
 ·rename_i k0 ka a kb b hu;have cE:=hd.int hu w;split at h
  ·rename_i hk;have hk:=of_decide_eq_true hk;subst hk;refine⟨_,_,?_,by rw[hu];rfl,h⟩;simp only[Op.equalIn,Sem.run_bind,cE,Result.andThen_ok,if_true,Sem.run_pure];by_cases e:a=b<;>simp[e]
  ·exact h.elim
 ·rename_i a b hu;have cE:=hd.string hu w;refine⟨_,_,?_,by rw[hu];rfl,h⟩;simp only[Op.equalIn,Sem.run_bind,cE,Result.andThen_ok,Sem.run_pure];rw[beq_toListBytes];have e1:(ByteArray.mk ⟨a⟩).toList=a:=ByteArray.toList_mk a;have e2:(ByteArray.mk ⟨b⟩).toList=b:=ByteArray.toList_mk b;rw[e1,e2];by_cases e:a=b<;>simp[e]
 ·rename_i a b hu;have cE:=hd.bool hu w;refine⟨_,_,?_,by rw[hu];rfl,h⟩;simp only[Op.equalIn,Sem.run_bind,cE,Result.andThen_ok,Sem.run_pure];cases a<;>cases b<;>rfl
 ·exact h.elim
def xf(C:Cx):List (Nat×TypeId)->aD->aD->PK->Prop
 | [],_,_,k=>k True inferInstance
 | [f],xs,ys,k=>eb C.T f.2 λd=>oy xs f.1 λx=>oy ys f.1 λy=>yP d.under x y k
 | f::r,xs,ys,k=>eb C.T f.2 λd=>oy xs f.1 λx=>oy ys f.1 λy=>yP d.under x y λp i=>xf C r xs ys λq j=>k (p/\q) (@instDecidableAnd p q i j)
theorem GQ{d:TD}(hd:dv P t d)(ha:qN d.under=false){l:aD}{off:Nat}{v:ao}(hv:l[off]?=some v)(w:ae):(part t ⟨l⟩ off).run P w=.ok v w:=by
 have h1:(isAgg t).run P w=.ok false w:=by rw[hd.isAgg,ha]
 have CX:(⟨l⟩:Array ao)[off]?=some v:=by simpa using hv
 simp[part,h1,CX]
theorem Pj{C:Cx}(hT:bK C.P C.T){xs ys:aD}{w:ae}{m:Nat}:∀ {fs:List Field} {k:PK},(∀f∈fs,f.name ≠ "_")->xf C (fs.map λf=>(f.offset,f.type)) xs ys k ->
  ∃(p:Prop) (i:Decidable p),(Op.eqFields (m+1) ⟨xs⟩ ⟨ys⟩ fs).run C.P w=.ok (@decide p i) w/\k p i
 | [],k,_,h=>⟨True,inferInstance,by simp[Op.eqFields],h⟩
 | f::r,k,hn,h=>by
  have key:∀k',(eb C.T f.type λd=>oy xs f.offset λx=>oy ys f.offset λy=>yP d.under x y k')->∃(p:Prop) (i:Decidable p),k' p i /\
    ∀R:Sem Bool,((do
     let a <-part f.type ⟨xs⟩ f.offset
     let b <-part f.type ⟨ys⟩ f.offset
     let r <-Op.equalIn (m+1) f.type a b
     if(!r)=true then pure false else R:Sem Bool)).run C.P w=if(!@decide p i)=true then .ok false w else R.run C.P w:=by
   intro k' h;obtain⟨d,hd,h⟩:=gp hT h;obtain⟨x,hx,h⟩:=Dn.1 h;obtain⟨y,hy,h⟩:=Dn.1 h;obtain⟨p,i,hr,ha,hk⟩:=age hd h w m;refine⟨p,i,hk,λR=>?_⟩;simp only[Sem.run_bind,GQ hd ha hx,GQ hd ha hy,hr,Result.andThen_ok,Sem.run_ite,Sem.run_pure]
  have hname:=hn f ai;cases r with
  | nil =>
   obtain⟨p,i,hk,hR⟩:=key k h;refine⟨p,i,?_,hk⟩;simp only[Op.eqFields,hname,ne_eq,not_false_eq_true,if_true];rw[hR];simp only[Sem.run_pure];cases @decide p i<;>rfl
  | cons g r =>
   obtain⟨p,i,hk,hR⟩:=key _ h;obtain⟨q,j,hrq,CL⟩:=Pj hT (fs:=g::r) (λf hf=>hn f (by simp[hf])) hk;refine⟨p/\q,@instDecidableAnd p q i j,?_,CL⟩;rw[Op.eqFields,if_pos hname,hR,hrq];by_cases hp:p<;>by_cases hq:q<;>simp[hp,hq]
theorem Ph{C:Cx}(hT:bK C.P C.T){t:TypeId}{d:TD}(hd:dv C.P t d)(he:d.eq=true){fs:List (Nat×TypeId)}(hu:d.under=.struct fs){xs ys:aD}{k:PK}(h:xf C fs xs ys k)(w:ae) :
  ∃(p:Prop) (i:Decidable p),k p i/\∀x y,((do eqGuard .eql t x y (.agg ⟨xs⟩) (.agg ⟨ys⟩);binOp .eql t (.agg ⟨xs⟩) (.agg ⟨ys⟩):Sem ao)).run C.P w=.ok (.bool (@decide p i)) w /\
   ((do eqGuard .neq t x y (.agg ⟨xs⟩) (.agg ⟨ys⟩);binOp .neq t (.agg ⟨xs⟩) (.agg ⟨ys⟩):Sem ao)).run C.P w=.ok (.bool (!@decide p i)) w:=by
 obtain⟨d0,h1,h2⟩:=hd.under;obtain⟨xm,rfl,vp,rfl⟩:=VG (h2.trans hu);obtain⟨hg,hs⟩:=hd.eq he;have hf:C.P.fieldsOf t=xm:=by simp[Program.fieldsOf,h1]
 have hn:∀f∈xm.toList,f.name ≠ "_":=by
  intro f hf hc;have:(xm.any λf=>f.name == "_")=true:=by
   rw[Array.any_eq_true'];exact⟨f,by simpa using hf,by simp[hc]⟩
  rw[vp]at this;cases this
 obtain⟨p,i,hr,hk⟩:=Pj hT (m:=9998) (w:=w) hn h;have hst:=run_equalIn_struct (P:=C.P) w 9999 t ⟨xs⟩ ⟨ys⟩ (by rw[hf];exact h1) hs;rw[hf]at hst;refine⟨p,i,hk,λx y=>⟨?_,?_⟩⟩
 ·rw[Sem.run_bind,run_eqGuard_agg (P:=C.P) w .eql t x y _ _ hg];simp only[Result.andThen_ok];rw[run_eql_struct,hst.trans hr];rfl
 ·rw[Sem.run_bind,run_eqGuard_agg (P:=C.P) w .neq t x y _ _ hg];simp only[Result.andThen_ok];rw[run_neq_struct,hst.trans hr];rfl
def nI(u:Nat):ad:=if u<128 then[UInt8.ofNat u]else UInt8.ofNat (u%128+128)::nI (u/128)
decreasing_by omega
theorem AR(h:u<128):nI u=[UInt8.ofNat u]:=by rw[nI,if_pos h]
theorem Ge(h:¬u<128):nI u=UInt8.ofNat (u%128+128)::nI (u/128):=by rw[nI,if_neg h]
def zz(n:Int):Nat:=if 0<=n then 2*n.toNat else 2*(-(n+1)).toNat+1
def rF(u:Nat):Int:=if u%2=0 then(u/2:Nat)else -((u/2:Nat):Int)-1
theorem ah8(n:Int):rF (zz n)=n:=by
 unfold rF zz;split<;>split<;>omega
theorem aiS(u:Nat):zz (rF u)=u:=by
 unfold rF zz;split<;>split<;>omega
theorem HD(h1 : -9223372036854775808<=n)(h2:n<=9223372036854775807):zz n<18446744073709551616:=by
 unfold zz;split<;>omega
theorem VO(h:u<18446744073709551616) : -9223372036854775808<=rF u/\rF u<=9223372036854775807:=by
 unfold rF;split<;>omega
def aM(n:Int):ad:=nI (zz n)
theorem pM(u:Nat):0<(nI u).length:=by
 rw[nI];split<;>simp
theorem aei:∀(k u:Nat),u<128^(k+1)->(nI u).length<=k+1:=by
 intro k;induction k with
 | zero=>intro u h;rw[AR aa];simp
 | succ k ih =>
  intro u h;by_cases hu:u<128
  ·rw[AR hu];simp
  ·rw[Ge hu];have:=ih (u/128) (by rw[Nat.pow_succ]at h;omega);simp only[av];omega
theorem fj(h1 : -9223372036854775808<=n)(h2:n<=9223372036854775807):(aM n).length<=10 :=
 aei 9 _ (by have:=HD h1 h2;simp only[Nat.reduceAdd,Nat.reducePow];omega)
inductive gH(α:Type) where
 | bad (c i:Int)
 | ok (x:α) (next:Nat)
inductive Np where
 | trunc
 | syn
 | ok (u k:Nat)
def iK:Nat->ad->Np
 | _,[]=>.trunc
 | i,c::r=>if(i=9/\1<c.toNat)\/(0<i/\c.toNat=0)then .syn else if c.toNat<128 then .ok c.toNat 1 else
   match iK (i+1) r with
   | .ok u k=>.ok (c.toNat%128+128*u) (k+1)
   | e=>e
theorem cH{n:Nat}(h:n<256):(UInt8.ofNat n).toNat=n:=by simp[UInt8.toNat_ofNat'];omega
theorem Le(h:i<9):2^(64-7*i)=128*2^(64-7*(i+1)):=by
 rw[show 64-7*i=(64-7*(i+1))+7 by omega,Nat.pow_add];omega
theorem aag(u:Nat):∀(i:Nat) (r:ad),i<=9->u<2^(64-7*i)->(0<i->0<u)->iK i (nI u++r)=.ok u (nI u).length:=by
 induction u using Nat.strongRecOn with
 | ind u ih =>
  intro i r hi hu hp;by_cases h:u<128
  ·rw[AR h];simp only[aL,aA,iK,cH (show u<256 by omega),List.length_singleton];rw[if_neg,if_pos h];rintro(⟨rfl,h1⟩|⟨h1,h2⟩)
   ·simp at hu;omega
   ·have:=hp h1;omega
  ·rw[Ge h];have xK:i≠9:=by rintro rfl;simp at hu;omega
   have hs:=Le (i:=i) aa;have e:=ih (u/128) aa (i+1) r aa aa aa;simp only[aL,iK,cH (show u%128+128<256 by omega),e,av];rw[if_neg aa,if_neg aa];congr 1;omega
theorem Li:∀(r:ad) (i u k:Nat),i<=9->iK i r=.ok u k->k<=r.length/\r.take k=nI u/\u<2^(64-7*i)/\(0<i->0<u)
 | [],i,u,k,_,h=>by simp[iK]at h
 | c::r,i,u,k,hi,h=>by
  have hc:=c.toNat_lt;simp only[iK]at h;split at h
  ·cases h
  ·rename_i h1;split at h
   ·rename_i h2;cases h;refine⟨ai,?_,?_,λh0=>by omega⟩
    ·rw[AR h2];simp
    ·by_cases xK:i=9
     ·subst xK;simp;omega
     ·have hs:=Le (i:=i) aa;have:0<2^(64-7*(i+1)):=Nat.two_pow_pos _;omega
   ·rename_i h2;split at h
    ·rename_i u' k' h3;cases h;have xK:i≠9:=by rintro rfl;omega
     obtain⟨g1,g2,g3,g4⟩:=Li r (i+1) u' k' aa h3;have hs:=Le (i:=i) aa;have g5:=g4 aa;refine⟨by simp;omega,?_,aa,λ_=>by omega⟩;rw[Ge aa,List.take_succ_cons,g2];congr 1
     ·apply UInt8.toNat_inj.1;rw[cH aa];omega
     ·congr 1;omega
    ·rename_i e _;cases e<;>simp_all
def cD(l:ad)(p:Nat):gH Int :=
 match iK 0 (l.drop p)with
 | .trunc=>.bad 15 p
 | .syn=>.bad 1 p
 | .ok u k=>.ok (rF u) (p+k)
theorem kq(h1 : -9223372036854775808<=n)(h2:n<=9223372036854775807)(l r:ad):cD (l++(aM n++r)) l.length=.ok n (l.length+(aM n).length):=by
 unfold cD aM;rw[k7,aag _ 0 r aa (by simpa using HD h1 h2) aa];simp only[ah8]
theorem eX{l:ad}{p:Nat}(hp:p<=l.length)(h:cD l p=.ok n q):p<q/\q<=l.length/\(l.take q).drop p=aM n /\ -9223372036854775808<=n/\n<=9223372036854775807:=by
 unfold cD at h;split at h
 ·cases h
 ·cases h
 ·rename_i u k hg;cases h;obtain⟨g1,g2,g3,_⟩:=Li _ 0 _ _ aa hg;simp only[bd]at g1;have hl:=congrArg List.length g2;have:=pM u;simp only[bb,bd]at hl;refine⟨aa,aa,?_,VO (by simpa using g3)⟩;rw[aM,aiS,<-g2,List.take_drop,uk]
theorem lO{l:ad}{p:Nat}(hp:p<=l.length)(h:cD l p=.ok n q):l.drop p=aM n++l.drop q:=by
 obtain⟨h1,h2,h3,_⟩:=eX hp h;rw[<-h3];conv=>lhs;rw[<-eN q l,Gw (by simp;omega)]
theorem adm{l:ad}{p:Nat}{c i:Int}(h:cD l p=.bad c i):(c=15\/c=1)/\i=p:=by
 unfold cD at h;split at h<;>cases h
 ·exact⟨.inl rfl,rfl⟩
 ·exact⟨.inr rfl,rfl⟩
theorem Gd{a b:Int}(ha : -9223372036854775808<=a/\a<=9223372036854775807)(hb : -9223372036854775808<=b/\b<=9223372036854775807){x y:ad}(h:aM a++x=aM b++y):a=b/\x=y:=by
 have h1:=kq ha.1 ha.2 [] x;have h2:=kq hb.1 hb.2 [] y;simp only[aA]at h1 h2;rw[h,h2]at h1;cases h1;exact⟨rfl,List.append_cancel_left h⟩
def cP(b:ad):ad:=aM b.length++b
def kJ(l:ad)(p:Nat):gH ad :=
 match cD l p with
 | .bad c i=>.bad c i
 | .ok n q=>if n<0 then .bad 4 p else if(l.length:Int)-q<n then .bad 15 p else .ok ((l.drop q).take n.toNat) (q+n.toNat)
theorem N0{b:ad}(hb:b.length<=1099511627776)(l r:ad):kJ (l++(cP b++r)) l.length=.ok b (l.length+(cP b).length):=by
 unfold kJ cP;rw[bJ,kq aa aa];simp only;rw[if_neg aa,if_neg (by simp;omega)];simp only[Int.toNat_natCast,aq];congr 1
 ·rw[<-bJ,Gw ai,pW ai,aA,List.take_left]
 ·omega
theorem NZ{l b:ad}{p:Nat}(hp:p<=l.length)(h:kJ l p=.ok b q):p<q/\q<=l.length/\l.drop p=cP b++l.drop q:=by
 unfold kJ at h;split at h
 ·cases h
 ·rename_i n q' hn;obtain⟨h1,h2,h3,h4⟩:=eX hp hn;have hs:=lO hp hn;split at h
  ·cases h
  ·split at h
   ·cases h
   ·cases h;refine⟨aa,aa,?_⟩;have hlen:((l.drop q').take n.toNat).length=n.toNat:=by simp;omega
    rw[cP,hlen,Int.toNat_of_nonneg aa,hs,bJ,<-oC,eN]
theorem yz{b:ad}(h:b.length<=1099511627776):(cP b).length<=10+b.length:=by
 have:=fj (n:=b.length) aa aa;rw[cP,aq];omega
theorem Tb{a b:ad}(ha:a.length<=1099511627776)(hb:b.length<=1099511627776){x y:ad}(h:cP a++x=cP b++y):a=b/\x=y:=by
 unfold cP at h;rw[bJ,bJ]at h;obtain⟨h1,h2⟩:=Gd (by constructor<;>omega) (by constructor<;>omega) h;exact List.append_inj h2 aa
def dK{α:Type}(one:Nat->gH α):Nat->Nat->gH (List α)
 | 0,p=>.ok [] p
 | n+1,p=>match one p with
  | .bad c i=>.bad c i
  | .ok x q=>match dK one n q with
   | .bad c i=>.bad c i
   | .ok l r=>.ok (x::l) r
def bX{α:Type}(l:ad)(one:Nat->gH α)(most:Int)(p:Nat):gH (List α) :=
 match cD l p with
 | .bad c i=>.bad c i
 | .ok n q=>if n<0\/most<n then .bad 4 p else dK one n.toNat q
theorem FP{α:Type}{one:Nat->gH α}:∀(n p:Nat),dK one (n+1) p=match dK one n p with
  | .bad c i=>.bad c i
  | .ok l q=>match one q with
   | .bad c i=>.bad c i
   | .ok x r=>.ok (l++[x]) r
 | 0,p=>by
  simp only[dK];cases one p<;>rfl
 | n+1,p=>by
  rw[dK];cases h1:one p with
  | bad c i=>simp only[dK,h1]
  | ok x q =>
   simp only;rw[FP n q];conv=>rhs;rw[dK,h1]
   cases h2:dK one n q with
   | bad c i=>simp only[h2]
   | ok l r =>
    simp only[h2];cases one r<;>rfl
def bY{α:Type}(f:α->ad)(l:List α):ad:=aM l.length++l.flatMap f
theorem Az{α:Type}{f:α->ad}{b:ad}{one:Nat->gH α}:∀(l:List α) (p:Nat),p<=b.length->(∀x∈l,∀q r,q<=b.length->b.drop q=f x++r->one q=.ok x (q+(f x).length))->∀r,b.drop p=l.flatMap f++r->dK one l.length p=.ok l (p+(l.flatMap f).length)
 | [],p,_,_,r,_=>by simp[dK]
 | x::l,p,hp,h,r,hb=>by
  simp only[bz,bJ]at hb;simp only[av,dK];rw[h x ai p _ hp hb];simp only;have hl:=congrArg List.length hb;simp only[bd,aq]at hl;rw[Az l (p+(f x).length) aa (λy hy=>h y (by simp[hy])) r (by rw[<-oC,hb,k7])];simp only[bz,aq];congr 1;omega
theorem yl{α:Type}{f:α->ad}{b:ad}{one:Nat->gH α}(h:∀p q x,p<=b.length->one p=.ok x q->p<=q/\q<=b.length/\b.drop p=f x++b.drop q):∀(n p q:Nat) (l:List α),p<=b.length->dK one n p=.ok l q->l.length=n/\p<=q/\q<=b.length/\b.drop p=l.flatMap f++b.drop q
 | 0,p,q,l,hp,he=>by
  simp only[dK]at he;cases he;simp[hp]
 | n+1,p,q,l,hp,he=>by
  simp only[dK]at he;split at he
  ·cases he
  ·rename_i x q1 h1;split at he
   ·cases he
   ·rename_i l' r h2;cases he;obtain⟨a1,a2,a3⟩:=h p q1 x hp h1;obtain⟨b1,b2,b3,b4⟩:=yl h n q1 _ _ a2 h2;refine⟨by simp[b1],aa,b3,?_⟩;rw[a3,b4];simp
theorem Ed(h:x<18446744073709551616):IntKind.u64.wrap (x:Int)=x:=by
 rw[<-Ec];simp only[wr];omega
theorem oz{w:Nat}(h:x<2^w):(BitVec.ofInt w (x:Int)).toNat=x:=by
 rw[BitVec.toNat_ofInt];have:((x:Int)%(2^w:Nat))=x:=Int.emod_eq_of_lt aa (by exact_mod_cast h);rw[this];simp
theorem adw(h:x<256):bN .or .u8 (x:Int) 128=((x%128+128:Nat):Int):=by
 have key:∀x:Fin 256,bN .or .u8 (x.val:Int) 128=((x.val%128+128:Nat):Int):=by decide +kernel
 exact key ⟨x,h⟩
theorem Xl(h:x<256):bN .and .u8 (x:Int) 127=((x%128:Nat):Int):=by
 have key:∀x:Fin 256,bN .and .u8 (x.val:Int) 127=((x.val%128:Nat):Int):=by decide +kernel
 exact key ⟨x,h⟩
theorem HR(h:x<18446744073709551616):bN .and .u64 (x:Int) 1=((x%2:Nat):Int):=by
 show IntKind.u64.wrap ((BitVec.ofInt 64 (x:Int)&&&BitVec.ofInt 64 1).toNat:Int)=_;rw[BitVec.toNat_and,oz (by simpa using h),show(BitVec.ofInt 64 1).toNat=1 from rfl,Nat.and_one_is_mod,Ed aa]
theorem vE{j:Nat}(hu:u<2^j)(hx:x*2^j<18446744073709551616)(hu2:u<18446744073709551616):bN .or .u64 (u:Int) ((x*2^j:Nat):Int)=((u+x*2^j:Nat):Int):=by
 show IntKind.u64.wrap ((BitVec.ofInt 64 (u:Int)|||BitVec.ofInt 64 ((x*2^j:Nat):Int)).toNat:Int)=_;rw[TJ,oz (by simpa using hu2),oz (by simpa using hx)];have e:u|||x*2^j=u+x*2^j:=by
  rw[Nat.or_comm,mM,<-TK hu,uk]
 rw[e];refine Ed ?_;have h1:=Nat.or_lt_two_pow (x:=u) (y:=x*2^j) (n:=64) (by simpa using hu2) (by simpa using hx);rw[e]at h1;simpa using h1
theorem aiR(h:dx n):bN .xor .u64 (((n%18446744073709551616)*2)%18446744073709551616) ((n/9223372036854775808)%18446744073709551616)=(zz n:Int):=by
 obtain⟨h1,h2⟩:=h;have hz:=HD h1 h2;show IntKind.u64.wrap ((BitVec.ofInt 64 _ ^^^ BitVec.ofInt 64 _).toNat:Int)=_;by_cases hn:0<=n
 ·have e1:n/9223372036854775808%18446744073709551616=0:=aa;have e2:n%18446744073709551616*2%18446744073709551616=(zz n:Int):=by unfold zz;rw[if_pos hn];omega
  rw[e1,e2,BitVec.toNat_xor,oz (by simpa using hz),show(BitVec.ofInt 64 0).toNat=0 from rfl,Nat.xor_zero,Ed hz]
 ·have e1:n/9223372036854775808%18446744073709551616=18446744073709551615:=aa;have e2:n%18446744073709551616*2%18446744073709551616=((18446744073709551615-zz n:Nat):Int):=by unfold zz;rw[if_neg hn];omega
  rw[e1,e2,show BitVec.ofInt 64 18446744073709551615=BitVec.allOnes 64 from rfl,aeP,BitVec.toNat_not,oz (by simp only[Nat.reducePow];omega)];rw[show(2^64-1-(18446744073709551615-zz n))=zz n by simp only[Nat.reducePow];omega,Ed hz]
theorem ah7(h:u<18446744073709551616):bN .xor .i64 ((u/2:Nat):Int) (0-((u%2:Nat):Int))=rF u:=by
 show IntKind.i64.wrap ((BitVec.ofInt 64 _ ^^^ BitVec.ofInt 64 _).toNat:Int)=_;unfold rF;rcases Nat.mod_two_eq_zero_or_one u with e|e
 ·rw[e,if_pos rfl];rw[show(0-((0:Nat):Int))=0 from rfl,BitVec.toNat_xor,oz (by simp only[Nat.reducePow];omega),show(BitVec.ofInt 64 0).toNat=0 from rfl,Nat.xor_zero];exact wrap_i64 (by constructor<;>omega)
 ·rw[e,if_neg aa];rw[show(0-((1:Nat):Int)) = -1 from rfl,show BitVec.ofInt 64 (-1)=BitVec.allOnes 64 from rfl,aeP,BitVec.toNat_not,oz (by simp only[Nat.reducePow];omega)];have key:∀x:Int,9223372036854775808<=x->x<18446744073709551616->IntKind.i64.wrap x=x-18446744073709551616:=by
   intro x h1 h2;have:∀m p:Int,m=18446744073709551616->p=9223372036854775808->(if(true&&decide (x%m>=p))=true then x%m-m else x%m)=x-18446744073709551616:=by
    rintro m p rfl rfl;simp only[Bool.true_and,ge_iff_le,decide_eq_true_eq];split<;>omega
   exact this (2^64) (2^63) ag ag
  rw[key _ (by simp only[Nat.reducePow];omega) (by simp only[Nat.reducePow];omega)];simp only[Nat.reducePow];omega
theorem Nl(h:x<9223372036854775808):IntKind.i64.wrap (x:Int)=x:=wrap_i64 (by constructor<;>omega)
theorem adC{j:Nat}(hu:u<2^j)(hx:x*2^j+u<9223372036854775808):bN .or .i64 ((x*2^j:Nat):Int) (u:Int)=((x*2^j+u:Nat):Int):=by
 show IntKind.i64.wrap ((BitVec.ofInt 64 ((x*2^j:Nat):Int)|||BitVec.ofInt 64 (u:Int)).toNat:Int)=_;rw[TJ,oz (by simp only[Nat.reducePow];omega),oz (by simp only[Nat.reducePow];omega)];have e:x*2^j|||u=x*2^j+u:=by
  rw[mM,<-TK hu]
 rw[e];exact Nl hx
theorem yu{y:Nat}(hx:x<256)(hy:y<256):bN .or .i64 ((x:Int)*256) (y:Int)=((256*x+y:Nat):Int):=by
 have:=adC (u:=y) (x:=x) (j:=8) hy (by simp only[Nat.reducePow];omega);rw[show((x:Int)*256)=((x*2^8:Nat):Int)by simp only[Nat.reducePow];omega,this];simp only[Nat.reducePow];congr 1;omega
theorem XT(k:IntKind)(a b:Int):bN .or k a b=bN .or k b a:=by
 show k.wrap _=k.wrap _;rw[BitVec.or_comm]
theorem F3{y:Nat}(hx:x<256)(hy:y<256):bN .or .i64 (y:Int) ((x:Int)*256)=((256*x+y:Nat):Int):=by
 rw[XT,yu hx hy]
theorem iF:(2:Int)^min (Int.toNat 8) IntKind.i64.bits=256:=ag
def zP(neg:Bool)(t:oY)(a b:ao)(c:ao->Prop):Prop :=
 match t,a,b with
 | .bool,.bool x,.bool y=>c (.bool (if neg then x != y else x == y))
 | .pointer _,.pointer none,.pointer y=>c (.bool (if neg then y.isSome else y.isNone))
 | .pointer _,.pointer (some _),.pointer none=>c (.bool neg)
 | .slice _,.slice none _ _,.slice y _ _=>c (.bool (if neg then y.isSome else y.isNone))
 | .slice _,.slice x _ _,.slice none _ _=>c (.bool (if neg then x.isSome else x.isNone))
 | .map _ _,.map x,.map none=>c (.bool (if neg then x.isSome else x.isNone))
 | .iface,.iface _ _,.nilIface=>c (.bool neg)
 | .func,.func _ _ _,.nilFunc=>c (.bool neg)
 | .func,.nilFunc,.nilFunc=>c (.bool (!neg))
 | _,_,_=>False
theorem ri{x:Operand}{a b:ao}{w:ae}{r:Bool}
  (hg:eqGuard (if neg then .neq else .eql) t x y a b=pure ())
  (hb:binOp (if neg then .neq else .eql) t a b=if neg then(do pure (.bool (!(<-Op.equal t a b))))else(do pure (.bool (<-Op.equal t a b))))
  (he:∀m,(Op.equalIn (m+1) t a b).run P w=.ok r w) :
  (do eqGuard (if neg then .neq else .eql) t x y a b;binOp (if neg then .neq else .eql) t a b:Sem ao).run P w=.ok (.bool (if neg then !r else r)) w:=by
 have he':(Op.equal t a b).run P w=.ok r w:=he 9999;rw[hg,hb];cases neg<;>simp[he']
theorem Pl{d:TD}(hd:dv P t d){a b:ao}{w:ae}{c:ao->ae->Prop}{x y:Operand}(h:zP neg d.under a b λv=>c v w) :
  bo P (do eqGuard (if neg then .neq else .eql) t x y a b;binOp (if neg then .neq else .eql) t a b) w c:=by
 unfold zP at h;split at h
 ·rename_i p q hu;have cE:=hd.bool hu w;have key:=ri (P:=P) (neg:=neg) (t:=t) (x:=x) (y:=y) (a:=.bool p) (b:=.bool q) (w:=w) (r:=p == q) (by cases neg<;>rfl) (by cases neg<;>rfl) (λm=>by simp only[Op.equalIn,Sem.run_bind,cE,Result.andThen_ok,Sem.run_pure]);refine .of key ?_;cases neg<;>exact h
 ·rename_i y' hu;have cE:=hd.pointer hu w;have key:=ri (P:=P) (neg:=neg) (t:=t) (x:=x) (y:=y) (a:=.pointer none) (b:=.pointer y') (w:=w) (r:=y'.isNone) (by cases neg<;>rfl) (by cases neg<;>rfl) (λm=>by simp only[Op.equalIn,Sem.run_bind,cE,Result.andThen_ok,Sem.run_pure]);refine .of key ?_;cases neg<;>cases y'<;>exact h
 ·rename_i p hu;have cE:=hd.pointer hu w;have key:=ri (P:=P) (neg:=neg) (t:=t) (x:=x) (y:=y) (a:=.pointer (some p)) (b:=.pointer none) (w:=w) (r:=false) (by cases neg<;>rfl) (by cases neg<;>rfl) (λm=>by simp only[Op.equalIn,Sem.run_bind,cE,Result.andThen_ok,Sem.run_pure]);refine .of key ?_;cases neg<;>exact h
 ·rename_i n1 n2 y' n3 n4 hu;have cE:=hd.slice hu w;have key:=ri (P:=P) (neg:=neg) (t:=t) (x:=x) (y:=y) (a:=.slice none n1 n2) (b:=.slice y' n3 n4) (w:=w) (r:=y'.isNone) (by cases neg<;>rfl) (by cases neg<;>rfl) (λm=>by simp only[Op.equalIn,Sem.run_bind,cE,Result.andThen_ok,Sem.run_pure]);refine .of key ?_;cases neg<;>cases y'<;>exact h
 ·rename_i x' n1 n2 n3 n4 hne hu;have cE:=hd.slice hu w;cases x' with
  | none=>exact(hne rfl).elim
  | some p =>
   have key:=ri (P:=P) (neg:=neg) (t:=t) (x:=x) (y:=y) (a:=.slice (some p) n1 n2) (b:=.slice none n3 n4) (w:=w) (r:=false) (by cases neg<;>rfl) (by cases neg<;>rfl) (λm=>by simp only[Op.equalIn,Sem.run_bind,cE,Result.andThen_ok,Sem.run_pure]);refine .of key ?_;cases neg<;>exact h
 ·rename_i x' hu;have cE:=hd.map hu w;have key:=ri (P:=P) (neg:=neg) (t:=t) (x:=x) (y:=y) (a:=.map x') (b:=.map none) (w:=w) (r:=x'.isNone) (by cases neg<;>rfl) (by cases neg<;>rfl) (λm=>by cases x'<;>simp only[Op.equalIn,Sem.run_bind,cE,Result.andThen_ok,Sem.run_pure]<;>rfl);refine .of key ?_;cases neg<;>cases x'<;>exact h
 ·rename_i t1 v1 hu;obtain⟨ms,cE⟩:=hd.iface hu w;have key:=ri (P:=P) (neg:=neg) (t:=t) (x:=x) (y:=y) (a:=.iface t1 v1) (b:=.nilIface) (w:=w) (r:=false) (by cases neg<;>rfl) (by cases neg<;>rfl) (λm=>by simp only[Op.equalIn,Sem.run_bind,cE,Result.andThen_ok,Sem.run_pure]);refine .of key ?_;cases neg<;>exact h
 ·rename_i f1 f2 f3 hu;obtain⟨q1,q2,q3,cE⟩:=hd.func hu w;have key:=ri (P:=P) (neg:=neg) (t:=t) (x:=x) (y:=y) (a:=.func f1 f2 f3) (b:=.nilFunc) (w:=w) (r:=false) (by cases neg<;>rfl) (by cases neg<;>rfl) (λm=>by simp only[Op.equalIn,Sem.run_bind,cE,Result.andThen_ok,Sem.run_pure]);refine .of key ?_;cases neg<;>exact h
 ·rename_i hu;obtain⟨q1,q2,q3,cE⟩:=hd.func hu w;have key:=ri (P:=P) (neg:=neg) (t:=t) (x:=x) (y:=y) (a:=.nilFunc) (b:=.nilFunc) (w:=w) (r:=true) (by cases neg<;>rfl) (by cases neg<;>rfl) (λm=>by simp only[Op.equalIn,Sem.run_bind,cE,Result.andThen_ok,Sem.run_pure]);refine .of key ?_;cases neg<;>exact h
 ·exact h.elim
abbrev str(l:ad):ao:=.string ⟨l.toArray⟩
def G7(op:BinOp)(x y:ad)(c:ao->Prop):Prop :=
 match op with
 | .add=>((x.length:Int)+y.length<=9223372036854775807)/\c (str (x++y))
 | .eql=>c (.bool (decide (x=y)))
 | .neq=>c (.bool (!decide (x=y)))
 | .lss=>c (.bool (Op.bytesLess x y))
 | .leq=>c (.bool (Op.bytesLess x y||decide (x=y)))
 | .gtr=>c (.bool (!(Op.bytesLess x y||decide (x=y))))
 | .geq=>c (.bool (!Op.bytesLess x y))
 | _=>False
theorem ByteArray.UE(bs:ad):(ByteArray.mk bs.toArray).size=bs.length:=rfl
theorem ag0{x y:ad}{w:ae}{c:ao->ae->Prop}(h:G7 op x y λv=>c v w) :
  bo P (binOp op t (str x) (str y)) w c:=by
 have he:(x == y)=decide (x=y):=by
  by_cases e:x=y<;>simp[e]
 cases op
 case add =>
  obtain⟨h1,h⟩:=h;refine .of (v:=str (x++y)) (w':=w) ?_ h;have h2:¬((9223372036854775807:Int)<(x.length:Int)+y.length):=aa;have h3:¬(((ByteArray.mk x.toArray).size+(ByteArray.mk y.toArray).size:Nat):Int)>IntKind.i64.max:=by
   rw[ByteArray.UE,ByteArray.UE];have:IntKind.i64.max=9223372036854775807:=ag;rw[this];omega
  simp only[binOp,Op.stringOp];rw[if_neg h3,ByteArray.mk_append_mk];rfl
 case eql=>exact .of (v:=.bool (decide (x=y))) (w':=w) (by simp[binOp,Op.stringOp,he]) h
 case neq=>exact .of (v:=.bool (!decide (x=y))) (w':=w) (by simp[binOp,Op.stringOp,he]) h
 case lss=>exact .of (v:=.bool (Op.bytesLess x y)) (w':=w) (by simp[binOp,Op.stringOp]) h
 case leq=>exact .of (v:=.bool (Op.bytesLess x y||decide (x=y))) (w':=w) (by simp[binOp,Op.stringOp,he]) h
 case gtr=>exact .of (v:=.bool (!(Op.bytesLess x y||decide (x=y)))) (w':=w) (by simp[binOp,Op.stringOp,he]) h
 case geq=>exact .of (v:=.bool (!Op.bytesLess x y)) (w':=w) (by simp[binOp,Op.stringOp]) h
 all_goals exact h.elim
def BK(C:Cx)(op:BinOp)(t:TypeId)(a b:ao)(w:ae)(k:ao->ae->Prop):Prop :=
 match a,b with
 | .int ka x,.int kb y =>
  (match op with
   | .shl=>(0<=y/\y<=64)/\pd ka (x*2^(min y.toNat ka.bits)) λv=>k v w
   | .shr=>(0<=y/\y<=64)/\k (.int ka (x/2^(min y.toNat ka.bits))) w
   | op=>(match ka,kb with
    | .i64,.i64=>qM op .i64 x y λv=>k v w
    | .u8,.u8=>qM op .u8 x y λv=>k v w
    | .i32,.i32=>qM op .i32 x y λv=>k v w
    | .u64,.u64=>qM op .u64 x y λv=>k v w
    | .u16,.u16=>qM op .u16 x y λv=>k v w
    | .u32,.u32=>qM op .u32 x y λv=>k v w
    | .i16,.i16=>qM op .i16 x y λv=>k v w
    | .i8,.i8=>qM op .i8 x y λv=>k v w
    | _,_=>False))
 | .string ⟨⟨x⟩⟩,.string ⟨⟨y⟩⟩=>G7 op x y λv=>k v w
 | .agg ⟨a⟩,.agg ⟨b⟩=>eb C.T t λd=>(match d.eq,d.under,op with
  | true,.struct fs,.eql=>xf C fs a b λp i=>k (.bool (@decide p i)) w
  | true,.struct fs,.neq=>xf C fs a b λp i=>k (.bool (@decide (¬p) (@instDecidableNot p i))) w
  | _,.array _ _,op=>bo C.P (do eqGuard op t (.tmp 0) (.tmp 0) (.agg ⟨a⟩) (.agg ⟨b⟩);binOp op t (.agg ⟨a⟩) (.agg ⟨b⟩)) w k
  | _,_,_=>False)
 | a,b=>(match op with
  | .eql=>eb C.T t λd=>zP false d.under a b λv=>k v w
  | .neq=>eb C.T t λd=>zP true d.under a b λv=>k v w
  | _=>False)
theorem ZA{x:Operand}{ka kb:IntKind}{a b:Int}{w:ae}:(eqGuard op t x y (.int ka a) (.int kb b)).run P w=.ok () w:=by
 unfold eqGuard;cases op<;>simp
theorem ZB{x:Operand}{a b:ByteArray}{w:ae}:(eqGuard op t x y (.string a) (.string b)).run P w=.ok () w:=by
 unfold eqGuard;cases op<;>simp
theorem bo.guard{g:Sem Unit}{s:Sem ao}{w:ae}{k:ao->ae->Prop}(hg:g.run P w=.ok () w)(h:bo P s w k):bo P (do g;s) w k:=by
 obtain⟨v,w',hr,hk⟩:=h.ex;exact⟨v,w',by simp[hg,hr],hk⟩
theorem XP{C:Cx}(hT:bK C.P C.T){op:BinOp}{t:TypeId}{x y:Operand}{a b:ao}{w:ae}{k:ao->ae->Prop}(h:BK C op t a b w k) :
  bo C.P (do eqGuard op t x y a b;binOp op t a b) w k:=by
 unfold BK at h;split at h
 ·refine .guard ZA ?_;rename_i ka x kb y;split at h
  ·obtain⟨h1,h⟩:=h;exact .of (v:=.int ka (ka.wrap (x*2^(min y.toNat ka.bits)))) (w':=w) (by simp[binOp,Op.shift,show ¬y<0 by omega]) (tu (k:=ka) (c:=λv=>k v w) h)
  ·obtain⟨h1,h⟩:=h;refine .of (v:=.int ka (x.fdiv (2^(min y.toNat ka.bits)))) (w':=w) (by simp[binOp,Op.shift,show ¬y<0 by omega]) ?_;rw[Int.fdiv_eq_ediv_of_nonneg _ (Int.pow_nonneg ag)];exact h
  ·split at h<;>first|exact abP h|exact h.elim
 ·exact .guard ZB (ag0 h)
 ·replace h:=gp hT h;obtain⟨d,hd,h⟩:=h;split at h
  ·rename_i fs he hu;obtain⟨p,i,hk,hr⟩:=Ph hT hd he hu h w;exact .of (hr x y).1 hk
  ·rename_i fs he hu;obtain⟨p,i,hk,hr⟩:=Ph hT hd he hu h w;refine .of (hr x y).2 ?_;have e:(!@decide p i)=@decide (¬p) (@instDecidableNot p i):=by by_cases hp:p<;>simp[hp]
   rw[e];exact hk
  ·exact h
  ·exact h.elim
 ·split at h
  ·replace h:=gp hT h;obtain⟨d,hd,h⟩:=h;exact Pl (neg:=false) hd h
  ·replace h:=gp hT h;obtain⟨d,hd,h⟩:=h;exact Pl (neg:=true) hd h
  ·exact h.elim
def Bh(op:UnOp)(x:ao)(c:ao->Prop):Prop :=
 match op,x with
 | .not,.bool b=>c (.bool (!b))
 | .neg,.int .i64 n=>(dx (0-n)/\c (.int .i64 (0-n)))\/c (.int .i64 (IntKind.i64.wrap (0-n)))
 | .neg,.int kd n=>pd kd (0-n) c
 | .xor,.int kd n=>c (.int kd (bN .xor kd (if kd.signed then -1 else kd.max) n))
 | _,_=>False
theorem ahZ{op:UnOp}{x:ao}{w:ae}{k:ao->ae->Prop}(h:Bh op x λv=>k v w):bo P (Op.unary op x) w k:=by
 unfold Bh at h;split at h
 ·rename_i b;exact .of (v:=.bool (!b)) (w':=w) (by simp[Op.unary]) h
 ·rename_i n;exact .of (v:=.int .i64 (IntKind.i64.wrap (0-n))) (w':=w) (by simp[Op.unary,Op.intArith]) (by
   rcases h with h|h
   ·rw[wrap_i64 h.1];exact h.2
   ·exact h)
 ·rename_i kd n _;exact .of (v:=.int kd (kd.wrap (0-n))) (w':=w) (by simp[Op.unary,Op.intArith]) (tu (k:=kd) (c:=λv=>k v w) h)
 ·rename_i kd n;exact .of (v:=.int kd (bN .xor kd (if kd.signed then -1 else kd.max) n)) (w':=w) (by simp[Op.unary,Op.intBits,bN]) h
 ·exact h.elim
def C7(u:oY):Bool:=match u with|.int .u8=>true|_=>false
def EG(C:Cx)(s d:TypeId)(x:ao)(w:ae)(k:ao->ae->Prop):Prop :=
 eb C.T s λds=>eb C.T d λdd =>
  match ds.under,dd.under,x with
  | .int .u64,.int .i64,.int _ n=>(dx n/\k (.int .i64 n) w)\/k (.int .i64 (IntKind.i64.wrap n)) w
  | .int _,.int kd,.int _ n=>pd kd n λv=>k v w
  | .string,.string,.string b=>k (.string b) w
  | .slice e,.string,.slice a len cap=>eb C.T e λde=>(match C7 de.under with
   | true=>∃l:ad,len=l.length/\Cells w a (l.map bv)/\k (str l) w
   | false=>bo C.P (convert s d (.slice a len cap)) w k)
  | .string,.slice _,x=>bo C.P (convert s d x) w k
  | .slice _,.slice _,x=>bo C.P (convert s d x) w k
  | .int _,.string,x=>bo C.P (convert s d x) w k
  | _,_,_=>False
theorem YL{C:Cx}(hT:bK C.P C.T){s d:TypeId}{x:ao}{w:ae}{k:ao->ae->Prop}(h:EG C s d x w k):bo C.P (convert s d x) w k:=by
 replace h:=gp hT h;obtain⟨ds,jT,h⟩:=h;replace h:=gp hT h;obtain⟨dd,vi,h⟩:=h;split at h
 ·rename_i q n mF hu;have h1:=jT.int mF w;have h2:=vi.int hu w;exact .of (v:=.int .i64 (IntKind.i64.wrap n)) (w':=w) (by simp[convert,h1,h2,Conv.intToInt]) (by
   rcases h with h|h
   ·rw[wrap_i64 h.1];exact h.2
   ·exact h)
 ·rename_i ks kd q n _ mF hu;have h1:=jT.int mF w;have h2:=vi.int hu w;exact .of (v:=.int kd (kd.wrap n)) (w':=w) (by simp[convert,h1,h2,Conv.intToInt]) (tu (k:=kd) (c:=λv=>k v w) h)
 ·rename_i b mF hu;have h1:=jT.string mF w;have h2:=vi.string hu w;exact .of (v:=.string b) (w':=w) (by simp[convert,h1,h2]) h
 ·rename_i e a len cap mF hu;replace h:=gp hT h;obtain⟨de,hde,h⟩:=h;split at h
  ·rename_i h8;obtain⟨l,rfl,hc,hk⟩:=h;have he:de.under=.int .u8:=by
    revert h8;cases de.under with
    | int q=>cases q<;>simp[C7]
    | _=>simp[C7]
   have g1:C.P.underlying s=some (.slice e):=by
    obtain⟨d0,q1,q2⟩:=jT.under;rw[mF]at q2;cases d0<;>first|(simp_all[c8];done)|(simp only[c8]at q2;split at q2<;>cases q2)
   have g2:C.P.underlying e=some (.int .u8):=by
    obtain⟨d0,q1,q2⟩:=hde.under;rw[he]at q2;cases d0<;>first|(simp_all[c8];done)|(simp only[c8]at q2;split at q2<;>cases q2)
   have g3:C.P.underlying d=some .string:=by
    obtain⟨d0,q1,q2⟩:=vi.under;rw[hu]at q2;cases d0<;>first|(simp_all[c8];done)|(simp only[c8]at q2;split at q2<;>cases q2)
   refine .of (v:=str l) (w':=w) ?_ hk;by_cases hl:l=[]
   ·subst hl;cases a with
    | none=>exact(run_convert_bytes_string w s d e none 0 cap g1 g2 g3).trans (by simp[Conv.bytesToString];rfl)
    | some p=>exact run_convert_bytes_back w s d e p cap [] g1 g2 g3 ai
   ·have hp:=hc.1 (by simpa using hl);have:=run_convert_bytes_back w s d e ⟨bD a,bw a,none⟩ cap l g1 g2 g3 (λj hj=>by rw[addr_add];exact hc.2 j _ (by simp[hj]));rw[hp];exact this
  ·exact h
 ·exact h
 ·exact h
 ·exact h
 ·exact h.elim
def AM(env:Env):List (Nat×Operand)->(List (Nat×ao)->Prop)->Prop
 | [],k=>k []
 | (i,x)::r,k=>cA env x λv=>AM env r λl=>k ((i,v)::l)
theorem K8{env:Env}{a:Act}(hs:Sat env a.tmps):∀ {xs:List (Nat×Operand)} {k:List (Nat×ao)->Prop},AM env xs k->k (xs.map λp=>(p.1,a.eval p.2))
 | [],_,h=>h
 | (i,x)::xs,k,h=>by
  have h1:=dm h hs;exact K8 hs (xs:=xs) h1
def FF(C:Cx)(t:TypeId)(x:ao)(k:ao->Prop):Prop :=
 eb C.T t λd=>match d.under,x with
  | .string,.string s=>k (.int .i64 (s.size:Int))
  | .slice _,.slice _ n _=>k (.int .i64 (n:Int))
  | .array n _,_=>k (.int .i64 (n:Int))
  | _,_=>False
theorem ab8{C:Cx}(hT:bK C.P C.T){t:TypeId}{ts:Array TypeId}{ty:TypeId}{x:ao}{xs:Array ao}{w:ae}{k:ao->ae->Prop}
  (ht:ts[0]?=some t) (hx:xs[0]?=some x) (h:FF C t x λv=>k v w):bo C.P (Builtin.len_ ts ty xs) w k:=by
 replace h:=gp hT h;obtain⟨d,hd,h⟩:=h;split at h
 ·rename_i hu;have h1:=hd.string hu w;exact .of (w':=w) (by simp[Builtin.len_,ht,hx,h1,goInt]) h
 ·rename_i hu;have h1:=hd.slice hu w;exact .of (w':=w) (by simp[Builtin.len_,ht,hx,h1,goInt]) h
 ·rename_i hu;have h1:=hd.array hu w;exact .of (w':=w) (by simp[Builtin.len_,ht,hx,h1,goInt]) h
 ·exact h.elim
def NR(C:Cx)(fv:ao)(vs:aD)(w:ae)(k:ao->ae->Prop)(Z:List PanicEntry->ae->Prop):Prop :=
 match fv with
 | .func (.func g) ⟨first⟩ ⟨captured⟩=>cw C.P g (first++vs++captured).toArray w k Z
 | .func (.yield l) ⟨[]⟩ ⟨[]⟩=>BE C.P l vs.toArray w λb w'=>k (.bool b) w'
 | _=>False
def HY(C:Cx)(b:Builtin)(ts:Array TypeId)(ty:TypeId)(vs:aD)(w:ae)(k:ao->ae->Prop):Prop :=
 match b,ts,vs with
 | .len,⟨[t]⟩,[x]=>FF C t x λv=>k v w
 | .append,ts,vs=>bo C.P (Builtin.append_ ts ty vs.toArray) w k
 | .copy,ts,vs=>bo C.P (Builtin.copy_ ts ty vs.toArray) w k
 | .min,ts,vs=>bo C.P (Builtin.min_ ts ty vs.toArray) w k
 | .max,ts,vs=>bo C.P (Builtin.max_ ts ty vs.toArray) w k
 | .cap,ts,vs=>bo C.P (Builtin.cap_ ts ty vs.toArray) w k
 | .delete,ts,vs=>bo C.P (Builtin.delete_ ts ty vs.toArray) w k
 | .clear,ts,vs=>bo C.P (Builtin.clear_ ts ty vs.toArray) w k
 | _,_,_=>False
def wR(C:Cx)(op:BinOp)(t:TypeId)(y:Operand)(a b:ao)(w:ae)(k:ao->ae->Prop):Prop :=
 match y,a,b with
 | .const _,.nilIface,.nilIface=>eb C.T t λd=>(match d.under,op with
  | .iface,.eql=>k (.bool true) w
  | .iface,.neq=>k (.bool false) w
  | _,_=>False)
 | _,a,b=>BK C op t a b w k
theorem XR{C:Cx}(hT:bK C.P C.T){op:BinOp}{t:TypeId}{x y:Operand}{a b:ao}{w:ae}{k:ao->ae->Prop}(h:wR C op t y a b w k):bo C.P (do eqGuard op t x y a b;binOp op t a b) w k:=by
 unfold wR at h;split at h
 ·rename_i c;replace h:=gp hT h;obtain⟨d,hd,h⟩:=h;split at h
  ·rename_i hu;obtain⟨ms,cE⟩:=hd.iface hu w;have key:=ri (P:=C.P) (neg:=false) (t:=t) (x:=x) (y:=.const c) (a:=.nilIface) (b:=.nilIface) (w:=w) (r:=true) (by simp[eqGuard]) aW (λm=>by simp only[Op.equalIn,Sem.run_bind,cE,Result.andThen_ok,Sem.run_pure]);exact .of key h
  ·rename_i hu;obtain⟨ms,cE⟩:=hd.iface hu w;have key:=ri (P:=C.P) (neg:=true) (t:=t) (x:=x) (y:=.const c) (a:=.nilIface) (b:=.nilIface) (w:=w) (r:=true) (by simp[eqGuard]) aW (λm=>by simp only[Op.equalIn,Sem.run_bind,cE,Result.andThen_ok,Sem.run_pure]);exact .of key h
  ·exact h.elim
 ·exact XP hT h
def Bv(P:Program)(t:TypeId)(u:ao)(m:String)(f:FuncId)(x:ao):Prop:=∀w:ae,(method (P.types.size+Made.depth) t u m).run P w=.ok (f,x) w
def mR(C:Cx)(op:Op)(ty:TypeId)(env:Env)(w:ae)(k:ao->ae->Prop)(Z:List PanicEntry->ae->Prop):Prop :=
 match op with
 | .move x=>cA env x λv=>k v w
 | .assign x=>cA env x λv=>k v w
 | .pick c a b=>cA env c λv=>(match v with
  | .bool t=>lz 0 t λt'=>(match t' with|true=>cA env a λu=>k u w|false=>cA env b λu=>k u w)
  | _=>False)
 | .alloc t=>NB C t w k
 | .box t x=>cA env x λv=>NL t v w k
 | .load t x=>cA env x λv=>vA C t v w k
 | .store t x y=>cA env x λa=>cA env y λv=>My C t a v w λw'=>k undef w'
 | .nilCheck x=>cA env x λv=>(match v with
  | .pointer (some a)=>k (.pointer (some a)) w
  | .func (.func f) a b=>k (.func (.func f) a b) w
  | .func (.yield f) a b=>k (.func (.yield f) a b) w
  | .map r=>k (.map r) w
  | .iface t u=>k (.iface t u) w
  | _=>False)
 | .binOp op t x y _=>cA env x λa=>cA env y λb=>wR C op t y a b w k
 | .unOp op _ x=>cA env x λa=>Bh op a λv=>k v w
 | .convert s d x=>cA env x λa=>EG C s d a w k
 | .fieldAddr t x f=>cA env x λa=>zS C t a f w k
 | .field t x f=>cA env x λa=>zU C t a f w k
 | .indexAddr t x i=>cA env x λa=>cA env i λj=>ye C t a j w k
 | .index t x i=>cA env x λa=>cA env i λj=>yf C t a j w k
 | .extract x i=>cA env x λa=>Ca a i w k
 | .build t parts=>AM env parts.toList λps=>BN C t ps w k
 | .buildSlice t n parts=>AM env parts.toList λps=>NN C t n ps w k
 | .makeFunc (.func f) first captured=>iW env first.toList λa=>iW env captured.toList λb=>k (.func (.func f) a.toArray b.toArray) w
 | .makeInterface t x=>cA env x λa=>bo C.P (Instr.makeInterface t a) w k
 | .makeMap t none=>bo C.P (Instr.makeMap t none) w k
 | .makeSlice t x y=>cA env x λa=>cA env y λb=>bo C.P (Instr.makeSlice t a b) w k
 | .slice t x lo hi mx=>cA env x λa=>iW env lo.toList λl=>iW env hi.toList λh=>iW env mx.toList λm=>wu C t a l.head? h.head? m.head? w k
 | .lookup t x i ok=>cA env x λa=>cA env i λj=>bo C.P (Instr.lookup t a j ok) w k
 | .range t x=>cA env x λa=>bo C.P (Instr.range t a) w k
 | .next x s=>cA env x λa=>bo C.P (Instr.next a s ty) w k
 | .entry x=>cA env x λa=>bo C.P (Instr.entry a) w k
 | .sliceToArrayPointer t x=>cA env x λa=>bo C.P (Instr.arrayAt t a) w k
 | .typeAssert x t t' ok=>cA env x λa=>bo C.P (Instr.typeAssert a t t' ok) w k
 | .mapUpdate t m i x=>cA env m λa=>cA env i λj=>cA env x λv=>bo C.P (do Instr.mapUpdate t a j v;pure undef) w k
 | .insert t m i x=>cA env m λa=>cA env i λj=>cA env x λv=>bo C.P (do Instr.mapUpdate t a j v;pure undef) w k
 | .call ⟨.value f,args,_⟩=>cA env f λfv=>iW env args.toList λvs=>NR C fv vs w k Z
 | .call ⟨.builtin b,args,ts⟩=>iW env args.toList λvs=>HY C b ts ty vs w k
 | .panic x=>cA env x λv=>(match v with
  | .iface t u=>Z [{ v:=.iface t u,recovered:=false }] w
  | _=>False)
 | .call ⟨.invoke r m,args,_⟩=>cA env r λrv=>iW env args.toList λvs=>(match rv with
  | .iface t u=>∃f x,Bv C.P t u m f x/\cw C.P f (x::vs).toArray w k Z
  | _=>False)
 | _=>False
def js(T:List TD)(t:TypeId):oY:=match T[t]? with|some d=>d.under|none=>.other
def k8(T:List TD):Op->Bool
 | .move _|.assign _|.pick _ _ _|.load _ _|.nilCheck _|.unOp _ _ _|.fieldAddr _ _ _|.field _ _ _|.indexAddr _ _ _|.index _ _ _|.extract _ _|.slice _ _ _ _ _=>true
 | .makeFunc (.func _) _ _=>true
 | .binOp _ t _ _ _=>(match js T t with|.array _ _=>false|_=>true)
 | .build t _=>(match js T t with|.struct _=>true|_=>false)
 | .convert s d _=>(match js T s,js T d with
  | .int _,.int _=>true
  | .string,.string=>true
  | .slice e,.string=>C7 (js T e)
  | _,_=>false)
 | .call ⟨.builtin .len,⟨[_]⟩,⟨[_]⟩⟩=>true
 | _=>false
def yJ:Op->Bool
 | .load _ _=>true
 | .convert _ _ _=>true
 | _=>false
theorem aia{C:Cx}{a:Act}{w:ae}{next:Act->ae->Prop}{Q:Exit->Act->ae->Prop}{s:Sem ao}
  (hs:Oper.semAt C.r a.eval o=(do pure (.value (<-s)))) (h:bo C.P s w λv w'=>next (a.put o.dst v) w'):o.wpIn (Fr C.r) 0 C.P a w next Q:=by
 obtain⟨v,w',hr,hk⟩:=h.ex;refine⟨λ_ _=>trivial,?_⟩;have e:(Fr C.r).round=C.r:=rfl;rw[e,hs];simp only[Sem.run_bind,hr,Result.andThen_ok,Sem.run_pure];exact hk
theorem ah9{C:Cx}{a:Act}{w:ae}{next:Act->ae->Prop}{Q:Exit->Act->ae->Prop}
  (hs:Oper.semAt C.r a.eval o=(do s;pure .skip)) (h:∃w',s.run C.P w=.ok () w'/\next (a.put o.dst undef) w'):o.wpIn (Fr C.r) 0 C.P a w next Q:=by
 obtain⟨w',hr,hk⟩:=h;refine⟨λ_ _=>trivial,?_⟩;have e:(Fr C.r).round=C.r:=rfl;rw[e,hs];simp only[Sem.run_bind,hr,Result.andThen_ok,Sem.run_pure];exact hk
theorem upon_enter{C:Cx}{a:Act}{w:ae}{next:Act->ae->Prop}{Q:Exit->Act->ae->Prop}{f:FuncId}{args:Array ao}
  (hs:(Oper.semAt C.r a.eval o).run C.P w=(callFunc f args).run C.P w) (h:cw C.P f args w (λv w'=>next (a.put o.dst v) w') (λch w'=>Q (.panic ch) a w')):o.wpIn (Fr C.r) 0 C.P a w next Q:=by
 refine⟨λ_ _=>trivial,?_⟩;have e:(Fr C.r).round=C.r:=rfl;rw[e,hs];rcases h.out with⟨he,h⟩|⟨v,w',hr,hk⟩
 ·rw[he args w];refine⟨λh=>by simp[Fr,Fence.wide]at h,BP.2 (Calls.lM h ?_)⟩;intro e w' r;cases e with
  | returned v=>exact r
  | panicked c=>exact r
  | outgrown=>exact r.elim
 ·rw[hr];exact hk
theorem Um{w:ae}{k:ao->ae->Prop}(h:bo P (do s;pure undef) w k):∃w',s.run P w=.ok () w'/\k undef w':=by
 obtain⟨v,w',hr,hk⟩:=h.ex;simp only[Sem.run_bind]at hr;cases hs:s.run P w with
 | ok u w1 =>
  simp only[hs,Result.andThen_ok,Sem.run_pure,Result.ok.injEq]at hr;obtain⟨rfl,rfl⟩:=hr;exact⟨w1,rfl,hk⟩
 | halt h w1=>simp[hs]at hr
theorem dZ{C:Cx}{a:Act}{op:Op}(ho:o.op=op)(h:∀c,op≠.defer c):Oper.semAt C.r a.eval o=execOp a.eval o :=
 Oper.semAt_eq _ _ _ (λc hc=>h c (ho▸hc))
theorem aaM{a:Act}(x:Option Operand):(x.toList.map a.eval).head?=x.map a.eval:=by cases x<;>rfl
theorem Ng{C:Cx}(hT:bK C.P C.T){o:Oper}{env:Env}{a:Act}(hs:Sat env a.tmps){w:ae}{k:ao->ae->Prop}{Z:List PanicEntry->ae->Prop}
  (h:mR C o.op o.type env w k Z) :
  (∃s:Sem ao,Oper.semAt C.r a.eval o=(do pure (.value (<-s)))/\bo C.P s w k) \/
  (k8 C.T o.op=false/\∃s:Sem Unit,Oper.semAt C.r a.eval o=(do s;pure .skip)/\∃w',s.run C.P w=.ok () w'/\k undef w') \/
  (k8 C.T o.op=false/\∃f args,(Oper.semAt C.r a.eval o).run C.P w=(callFunc f args).run C.P w/\cw C.P f args w k Z) \/
  (k8 C.T o.op=false/\∃l fn tmps assign body,(Oper.semAt C.r a.eval o).run C.P w=.ok (.round l fn tmps assign body) w/\RoundIn (Fr none) 0 C.P l fn tmps assign body w λe w'=>∃v,e=.returned v/\k v w') \/
  (k8 C.T o.op=false/\∃t u,(Oper.semAt C.r a.eval o).run C.P w=.halt (.panic (.iface t u)) w/\Z [{ v:=.iface t u,recovered:=false }] w):=by
 generalize ho:o.op=op at h;unfold mR at h;split at h
 case h_1 x =>
  exact .inl ⟨pure (a.eval x),(by rw[dZ ho ai];simp[execOp,ho]),.of ai (dm h hs)⟩
 case h_2 x =>
  exact .inl ⟨pure (a.eval x),(by rw[dZ ho ai];simp[execOp,ho]),.of ai (dm h hs)⟩
 case h_3 c x y =>
  replace h:=dm h hs;split at h
  ·rename_i t ht;replace h:=Ij.1 h;cases t with
   | true =>
    exact .inl ⟨pure (a.eval x),(by rw[dZ ho ai];simp[execOp,ho,ht,asBool]),.of ai (dm h hs)⟩
   | false =>
    exact .inl ⟨pure (a.eval y),(by rw[dZ ho ai];simp[execOp,ho,ht,asBool]),.of ai (dm h hs)⟩
  ·exact h.elim
 case h_4 t =>
  exact .inl ⟨Instr.alloc t true (.tuple #[]),(by rw[dZ ho ai];simp[execOp,ho]),Xk hT h⟩
 case h_5 t x =>
  exact .inl ⟨Instr.box t (a.eval x),(by rw[dZ ho ai];simp[execOp,ho]),XW (dm h hs)⟩
 case h_6 t x =>
  exact .inl ⟨Instr.loadAt t (a.eval x),(by rw[dZ ho ai];simp[execOp,ho]),ach hT (dm h hs)⟩
 case h_7 t x y =>
  replace h:=dm (dm h hs) hs;obtain⟨w',hr,hk⟩:=agY hT h;exact .inr (.inl ⟨rfl,Instr.storeAt t (a.eval x) (a.eval y),(by rw[dZ ho ai];simp[execOp,ho]),w',hr,hk⟩)
 case h_8 x =>
  replace h:=dm h hs;split at h
  all_goals first
   | exact h.elim
   | (rename_i hx
      exact .inl ⟨pure (a.eval x),(by rw[dZ ho ai];simp[execOp,ho,hx]),.of (by simp[hx]) h⟩)
 case h_9 op t x y _ =>
  replace h:=dm (dm h hs) hs;exact .inl ⟨(do eqGuard op t x y (a.eval x) (a.eval y);binOp op t (a.eval x) (a.eval y)),(by rw[dZ ho ai];simp[execOp,ho]),XR hT h⟩
 case h_10 op _ x =>
  replace h:=dm h hs;exact .inl ⟨Op.unary op (a.eval x),(by rw[dZ ho ai];simp[execOp,ho]),ahZ h⟩
 case h_11 s d x =>
  exact .inl ⟨convert s d (a.eval x),(by rw[dZ ho ai];simp[execOp,ho]),YL hT (dm h hs)⟩
 case h_12 t x f =>
  exact .inl ⟨Instr.fieldAt t (a.eval x) f,(by rw[dZ ho ai];simp[execOp,ho]),ZJ hT (dm h hs)⟩
 case h_13 t x f =>
  exact .inl ⟨Instr.field t (a.eval x) f,(by rw[dZ ho ai];simp[execOp,ho]),ZL hT (dm h hs)⟩
 case h_14 t x i =>
  exact .inl ⟨Instr.indexAt t (a.eval x) (a.eval i),(by rw[dZ ho ai];simp[execOp,ho]),abH hT (dm (dm h hs) hs)⟩
 case h_15 t x i =>
  exact .inl ⟨Instr.index t (a.eval x) (a.eval i),(by rw[dZ ho ai];simp[execOp,ho]),abN hT (dm (dm h hs) hs)⟩
 case h_16 x i =>
  exact .inl ⟨Instr.extract (a.eval x) i,(by rw[dZ ho ai];simp[execOp,ho]),ZG (dm h hs)⟩
 case h_17 t parts =>
  replace h:=K8 hs h;refine .inl ⟨Instr.build t (parts.map λ(i,x)=>(i,a.eval x)),(by rw[dZ ho ai];simp[execOp,ho]),?_⟩;have e:(List.map (λp:Nat×Operand=>(p.1,a.eval p.2)) parts.toList).toArray=parts.map λ(i,x)=>(i,a.eval x):=by apply qZ;simp
  rw[<-e];exact XZ hT h
 case h_18 t n parts =>
  replace h:=K8 hs h;refine .inl ⟨Instr.buildSlice t n (parts.map λ(i,x)=>(i,a.eval x)),(by rw[dZ ho ai];simp[execOp,ho]),?_⟩;have e:(List.map (λp:Nat×Operand=>(p.1,a.eval p.2)) parts.toList).toArray=parts.map λ(i,x)=>(i,a.eval x):=by apply qZ;simp
  rw[<-e];exact XY hT h
 case h_19 f first captured =>
  replace h:=uJ hs (uJ hs h);refine .inl ⟨Instr.makeFunc (.func f) (first.map a.eval) (captured.map a.eval),(by rw[dZ ho ai];simp[execOp,ho]),.of ?_ h⟩;have e1:∀l:Array Operand,(List.map a.eval l.toList).toArray=l.map a.eval:=λl=>by apply qZ;simp
  rw[e1,e1];simp[Instr.makeFunc]
 case h_20 t x =>
  exact .inl ⟨Instr.makeInterface t (a.eval x),(by rw[dZ ho ai];simp[execOp,ho]),dm h hs⟩
 case h_21 t =>
  exact .inl ⟨Instr.makeMap t none,(by rw[dZ ho ai];simp[execOp,ho]),h⟩
 case h_22 t x y =>
  exact .inl ⟨Instr.makeSlice t (a.eval x) (a.eval y),(by rw[dZ ho ai];simp[execOp,ho]),dm (dm h hs) hs⟩
 case h_23 t x lo hi mx =>
  replace h:=uJ hs (uJ hs (uJ hs (dm h hs)));simp only[aaM]at h;exact .inl ⟨Instr.sliceAt t (a.eval x) (lo.map a.eval) (hi.map a.eval) (mx.map a.eval),(by rw[dZ ho ai];simp[execOp,ho]),agA hT h⟩
 case h_24 t x i ok =>
  exact .inl ⟨Instr.lookup t (a.eval x) (a.eval i) ok,(by rw[dZ ho ai];simp[execOp,ho]),dm (dm h hs) hs⟩
 case h_25 t x =>
  exact .inl ⟨Instr.range t (a.eval x),(by rw[dZ ho ai];simp[execOp,ho]),dm h hs⟩
 case h_26 x s =>
  exact .inl ⟨Instr.next (a.eval x) s o.type,(by rw[dZ ho ai];simp[execOp,ho]),dm h hs⟩
 case h_27 x =>
  exact .inl ⟨Instr.entry (a.eval x),(by rw[dZ ho ai];simp[execOp,ho]),dm h hs⟩
 case h_28 t x =>
  exact .inl ⟨Instr.arrayAt t (a.eval x),(by rw[dZ ho ai];simp[execOp,ho]),dm h hs⟩
 case h_29 x t t' ok =>
  exact .inl ⟨Instr.typeAssert (a.eval x) t t' ok,(by rw[dZ ho ai];simp[execOp,ho]),dm h hs⟩
 case h_30 t m i x =>
  obtain⟨w',hr,hk⟩:=Um (dm (dm (dm h hs) hs) hs);exact .inr (.inl ⟨rfl,Instr.mapUpdate t (a.eval m) (a.eval i) (a.eval x),(by rw[dZ ho ai];simp[execOp,ho]),w',hr,hk⟩)
 case h_31 t m i x =>
  obtain⟨w',hr,hk⟩:=Um (dm (dm (dm h hs) hs) hs);exact .inr (.inl ⟨rfl,Instr.mapUpdate t (a.eval m) (a.eval i) (a.eval x),(by rw[dZ ho ai];simp[execOp,ho]),w',hr,hk⟩)
 case h_32 f args ts =>
  replace h:=uJ hs (dm h hs);unfold NR at h;split at h
  ·rename_i g first captured hf
   refine .inr (.inr (.inl ⟨rfl,g,(first++args.toList.map a.eval++captured).toArray,?_,h⟩));rw[dZ ho ai];simp only[execOp,ho,resolve,hf,Deferred.ofValue,invoke,Sem.run_bind,Sem.run_pure,Result.andThen_ok];congr 2;apply qZ;simp
  ·rename_i l hf;obtain⟨fn,tmps,assign,body,h1,h2⟩:=h.out;refine .inr (.inr (.inr (.inl ⟨rfl,l,fn,tmps,assign,body,?_,h2.mono λe w' ⟨b,he,hk⟩=>⟨_,he,hk⟩⟩)));rw[dZ ho ai];have Fb:(args.toList.map a.eval).toArray=args.map a.eval:=by apply qZ;simp
   rw[Fb]at h1;simp only[execOp,ho,resolve,hf,Deferred.ofValue,invoke,Sem.run_bind,Sem.run_pure,Result.andThen_ok];rw[<-h1];congr 2;apply qZ;simp
  ·exact h.elim
 case h_33 b args ts =>
  replace h:=uJ hs h;have Fb:(args.toList.map a.eval).toArray=args.map a.eval:=by apply qZ;simp
  unfold HY at h;split at h
  ·rename_i t x hx;refine .inl ⟨Builtin.len_ #[t] o.type (args.map a.eval),(by rw[dZ ho ai];simp[execOp,ho,resolve,invoke,builtin]),ab8 hT (t:=t) (x:=x) rfl ?_ h⟩;rw[<-Fb,hx];rfl
  all_goals first
   | exact h.elim
   | (rw[Fb]at h
      refine .inl ⟨_,?_,h⟩
      rw[dZ ho ai]
      simp[execOp,ho,resolve,invoke,builtin])
 case h_34 x =>
  replace h:=dm h hs;split at h
  ·rename_i t u hx;refine .inr (.inr (.inr (.inr ⟨rfl,t,u,?_,h⟩)));rw[dZ ho ai];simp only[execOp,ho,hx,Sem.run_bind];rfl
  ·exact h.elim
 case h_35 r m args ts =>
  replace h:=uJ hs (dm h hs);split at h
  ·rename_i t u hr;obtain⟨f,x,hm,h⟩:=h;refine .inr (.inr (.inl ⟨rfl,f,(x::args.toList.map a.eval).toArray,?_,h⟩));rw[dZ ho ai];have e:(x::args.toList.map a.eval).toArray=#[x]++args.map a.eval:=by apply qZ;simp
   rw[e];have key:∀A:Array ao,(invoke (.fn (.method m) #[]) (#[Value.iface t u]++A)).run C.P w=(callFunc f (#[x]++A)).run C.P w:=by
    intro A;have e0:(#[Value.iface t u]++A)[0]?=some (.iface t u):=by rw[Array.getElem?_append_left ai];rfl
    simp[invoke,callMethod,e0,go_sem,hm w]
   simp only[execOp,ho,resolve,hr,Sem.run_bind,Sem.run_pure,Result.andThen_ok];exact key _
  ·exact h.elim
 case h_36=>exact h.elim
theorem zb{C:Cx}(hT:bK C.P C.T){o:Oper}{env:Env}{a:Act}(hs:Sat env a.tmps){w:ae}{k:ao->ae->Prop}{Z:List PanicEntry->ae->Prop}
  (h:mR C o.op o.type env w k Z) {next:Act->ae->Prop} {Q:Exit->Act->ae->Prop} (hn:∀v w',k v w'->next (a.put o.dst v) w') (hz:∀ch w',Z ch w'->Q (.panic ch) a w') :
  o.wpIn (Fr C.r) 0 C.P a w next Q:=by
 rcases Ng hT hs h with⟨s,h1,v,w',hr,hk⟩|⟨_,s,h1,w',hr,hk⟩|⟨_,f,args,h1,h2⟩|⟨_,l,fn,tmps,assign,body,h1,h2⟩|⟨_,t,u,h1,h2⟩
 ·exact aia h1 ⟨v,w',hr,hn _ _ hk⟩
 ·exact ah9 h1 ⟨w',hr,hn _ _ hk⟩
 ·exact upon_enter h1 (cw.mono h2 hn hz)
 ·refine⟨λ_ _=>trivial,?_⟩;have e:(Fr C.r).round=C.r:=rfl;rw[e,h1];refine⟨λh=>by simp[Fr,Fence.wide]at h,afN (h2.mono ?_)⟩;rintro e w'⟨v,rfl,hk⟩;exact hn _ _ hk
 ·refine⟨λ_ _=>trivial,?_⟩;have e:(Fr C.r).round=C.r:=rfl;rw[e,h1];exact hz _ _ h2
end Go.Proofs.YtmoiobegbpkkbaaGreatDoor
