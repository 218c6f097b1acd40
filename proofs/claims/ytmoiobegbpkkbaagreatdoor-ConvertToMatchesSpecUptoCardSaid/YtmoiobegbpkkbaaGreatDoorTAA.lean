import Derived.TacticsIn
import Derived.TacticsInMore
import Derived.RangeFuncIn
import Derived.Laws.AppendOwn
import Derived.Laws.CopyRow
import Derived.Laws.Cells
import Derived.Laws.Entries
import Derived.Below
import Derived.KernelRfl
import Derived.Laws.Tables
import Derived.Laws.Strings
import Derived.Laws.Strings2
import Derived.Laws.StructEq
import Derived.Laws.Concat
import Derived.Laws.IdiomStrings
import Derived.RangeFuncLeaves
import Derived.RangeFuncRecord
import Derived.Test.YtmoiobegbpkkbaaGreatDoorProg
open Array renaming getD_eq_getD_getElem?->Jn,getElem?_eq_some_iff->ku,getElem_modify->Xe,toArray_toList->Xi,toList_setIfInBounds->aiq,ext'->sr,mapM_eq_mapM_toList->ait,getElem?_append_left->Xm
open BitVec renaming ofInt->kL,xor_allOnes->aiy
open ByteArray renaming mk->jY
open Go.Result renaming andThen_ok->fb
open Go.Result.ok renaming injEq->OU
open Go.Sem renaming run_bind->eU,run_pure->fP
open List renaming getElem?_cons_succ->y8,getElem?_map->ib,all_eq_true->bc,mem_cons->bP,take_append_drop->eW,getElem?_eq_some_iff->dH,length_cons->aq,take_of_length_le->bJ,drop_of_length_le->fc,drop_drop->gK,append_assoc->bj,cons_append->bb,nil_append->aL,mapM_cons->OT,length_append->ak,length_take->bg,length_drop->aU,drop_left->kN,length->bU,drop_append_of_le_length->Fi,flatMap_cons->bD
open Nat renaming eq_of_beq_eq_true->qt,ne_of_beq_eq_false->Oy,add_comm->sq,add_zero->ln,succ_mul->qB,le_of_ble_eq_true->aiu,mul_comm->lP,two_pow_add_eq_or_of_lt->aiw
open Option renaming map_some->gQ
open Option.some renaming injEq->mR
open UInt8 renaming ofNat->aD
namespace Go.Proofs.YtmoiobegbpkkbaaGreatDoor
open Go Go.RowKit
set_option maxRecDepth 100000
set_option maxHeartbeats 8000000
variable{p:Prop}{r:Option Nat}{n:Int}{P:Program}{t:TypeId}{x b B i u j:Nat}{a:Act}{F:Bool->Prop}{k:Nat->Prop}{op:BinOp}{y:Operand}{c:Code}{neg:Bool}{o:Oper}{s:Sem Unit}{ops:List Oper}
theorem aa{p:Prop}(h:p:=by omega):p:=h
theorem ai{p:Prop}(h:p:=by decide):p:=h
theorem av{p:Prop}(h:p:=by kernel_rfl):p:=h
theorem ah{p:Prop}(h:p:=by simp):p:=h
theorem bX{p:Prop}(h:p:=by rfl):p:=h
abbrev ab:=List UInt8
abbrev au:=List Nat
abbrev aC:=List Value
abbrev bf:=List ab
abbrev fV:=Option ab
abbrev aj:=Value
abbrev ad:=World
abbrev qtQ:=List au
theorem ae.{u}{c:Prop}{h:Decidable c}(k:¬c){α:Sort u}{t e:α}:(ite c t e)=e:=if_neg k
theorem ag.{u}{c:Prop}{h:Decidable c}(k:c){α:Sort u}{t e:α}:(ite c t e)=t:=if_pos k
theorem ax.{u,v}{α:Sort u}{β:Sort v}{nf GA:α}(f:α->β)(h:nf=GA):f nf=f GA:=congrArg f h
theorem bA:∀{p:Prop}[Decidable p],¬p->decide p=false:=decide_eq_false
theorem bw:∀{p:Prop}[Decidable p],p->decide p=true:=decide_eq_true
theorem eQ{p:Prop}[Decidable p]:(decide p=true)=p:=decide_eq_true_eq
theorem sB(h:p:=by repeat (first|exact trivial|refine⟨rfl,?_⟩)):p:=h
def Fr(r:Option Nat):Fence:={ Fence.wide with round:=r }
theorem Qy(r:Option Nat)(n:Nat):(Fr r).room n:=λ_ h=>by simp[Fr,Fence.wide]at h
theorem CS{n:Nat}{f:FuncId}{args:Array aj}{w:ad}{R:Ending->ad->Prop} :
  CallsIn (Fr r) n P f args w R↔Calls P f args w R :=
 ⟨λh=>callsIn_wide (n:=0).1 ⟨trivial,λcs _=>h.2 cs (Qy _ _)⟩,
  λh=>⟨trivial,λcs _=>((callsIn_wide (n:=0)).2 h).2 cs (room_wide _)⟩⟩
def Enters(P:Program)(f:FuncId):Prop:=∀args w,(callFunc f args).run P w=.ok (.enter f args) w
theorem xG{f:FuncId}{fn:Func}(hf:P.funcs[f]?=some fn)(hb:fn.body.isSome=true)(hn:(fn.name == "runtime.NumGoroutine")=false):Enters P f:=by
 intro args w;cases h:fn.body with
 | none=>simp[h]at hb
 | some c =>
  have hn':¬fn.name = "runtime.NumGoroutine":=by simpa using hn
  simp[callFunc,hf,hn',h]
structure cR(P:Program)(f:FuncId)(args:Array aj)(w:ad)(K:aj->ad->Prop)(Z:List PanicEntry->ad->Prop):Prop where
 out:(Enters P f/\Calls P f args w λe w'=>match e with|.returned v=>K v w'|.panicked ch=>Z ch w'|.outgrown=>False)\/∃v w',(callFunc f args).run P w=.ok (.value v) w'/\K v w'
theorem Calls.nD{f:FuncId}{args:Array aj}{w:ad}{R R':Ending->ad->Prop}(h:Calls P f args w R)(hr:∀e w',R e w'->R' e w'):Calls P f args w R' :=
 λcs=>let⟨e,w',fr,r,s⟩:=h cs;⟨e,w',fr,hr _ _ r,s⟩
theorem cR.mono{f:FuncId}{args:Array aj}{w:ad}{K K':aj->ad->Prop}{Z Z':List PanicEntry->ad->Prop}
  (h:cR P f args w K Z) (hk:∀v w',K v w'->K' v w') (hz:∀c w',Z c w'->Z' c w'):cR P f args w K' Z' :=
 ⟨h.out.imp (λ⟨he,hc⟩=>⟨he,Calls.nD hc λe w' r=>by cases e with
  | returned v=>exact hk _ _ r
  | panicked c=>exact hz _ _ r
  | outgrown=>exact r⟩) λ⟨v,w',hr,h⟩=>⟨v,w',hr,hk _ _ h⟩⟩
theorem cR.ent{f:FuncId}{args:Array aj}{w:ad}{K:aj->ad->Prop}{Z:List PanicEntry->ad->Prop}(he:Enters P f)(h:cR P f args w K Z) :
  Calls P f args w λe w'=>match e with|.returned v=>K v w'|.panicked ch=>Z ch w'|.outgrown=>False:=by
 rcases h.out with⟨_,h⟩|⟨v,w',hr,_⟩
 ·exact h
 rw[he args w]at hr;cases hr
abbrev fY(P:Program)(f:FuncId)(args:Array aj)(w:ad)(K:aj->ad->Prop):Prop:=cR P f args w K (λ_ _=>False)
abbrev tF:=fY Tryz.prog
abbrev aB(f:FuncId)(l:aC):=fY Tryz.prog f l.toArray
theorem fY.use{f:FuncId}{args:Array aj}{w:ad}{K K':aj->ad->Prop}{Z:List PanicEntry->ad->Prop}
  (h:fY P f args w K) (hk:∀v w',K v w'->K' v w'):cR P f args w K' Z:=cR.mono h hk (λ_ _ h=>h.elim)
theorem fY.mono{P:Program}{f:FuncId}{args:Array aj}{w:ad}{K K':aj->ad->Prop}
  (h:fY P f args w K) (hk:∀v w',K v w'->K' v w'):fY P f args w K':=cR.mono h hk (λ_ _ h=>h.elim)
theorem fY.calls{f:FuncId}{args:Array aj}{w:ad}{K:aj->ad->Prop}(he:Enters P f)(h:fY P f args w K) :
  Calls P f args w λe w'=>∃v,e=.returned v/\K v w' :=
 Calls.nD (cR.ent he h) λe w' r=>by cases e with
  | returned v=>exact⟨v,rfl,r⟩
  | panicked c=>exact r.elim
  | outgrown=>exact r.elim
theorem ajj{r':Option Nat}{n n':Nat}{l:Nat}{f:FuncId}{tmps:Array aj}{assign body:Code}{w:ad}{R:Ending->ad->Prop}(h:RoundIn (Fr r) n P l f tmps assign body w R) :
  RoundIn (Fr r') n' P l f tmps assign body w R:=⟨trivial,λc cs _=>h.2 c cs (Qy _ _)⟩
structure CI(P:Program)(l:Nat)(args:Array aj)(W:ad)(R:Bool->ad->Prop):Prop where
 out:∃fn tmps assign body,(Instr.yield l args).run P W=.ok (.round l fn tmps assign body) W/\RoundIn (Fr none) 0 P l fn tmps assign body W λe W'=>∃b,e=.returned (.bool b)/\R b W'
theorem CI.mono{P:Program}{l:Nat}{args:Array aj}{W:ad}{R R':Bool->ad->Prop}(h:CI P l args W R)(hr:∀b W',R b W'->R' b W'):CI P l args W R':=by obtain⟨fn,tmps,assign,body,h1,h2⟩:=h.out;exact⟨fn,tmps,assign,body,h1,h2.mono λe W' ⟨b,he,hb⟩=>⟨b,he,hr b W' hb⟩⟩
abbrev Env:=List (Nat×aj)
def get?:Env->Nat->Option aj
 | [],_=>none
 | (s,v)::r,t=>match Nat.beq s t with|true=>some v|false=>get? r t
def um:Env->Nat->(aj->Prop)->Prop
 | [],_,_=>False
 | (s,v)::r,t,k=>match Nat.beq s t with|true=>k v|false=>um r t k
theorem vE{env:Env}{t:Nat}{k:aj->Prop}:um env t k↔∃v,get? env t=some v/\k v:=by
 induction env with
 | nil=>simp[um,get?]
 | cons p r ih =>
  obtain⟨s,v⟩:=p;simp only[um,get?];cases h:Nat.beq s t with
  | true=>simp
  | false=>exact ih
def Sat(env:Env)(tm:Array aj):Prop:=∀t v,get? env t=some v->tm[t]?=some v
theorem Sat.nil(tm:Array aj):Sat [] tm:=λ_ _ h=>by simp[get?]at h
theorem Sat.put{env:Env}{tm:Array aj}(h:Sat env tm){d:Nat}(hd:d<tm.size)(v:aj):Sat ((d,v)::env) (tm.setIfInBounds d v):=by
 intro t u hu;simp only[get?]at hu;cases e:Nat.beq d t with
 | true =>simp only[e]at hu;have:d=t:=qt e;subst this;cases hu;simp[hd]
 | false =>simp only[e]at hu;have:d≠t:=Oy e;rw[Array.getElem?_setIfInBounds];simp[this,h t u hu]
theorem Sat.cons{env:Env}{tm:Array aj}(h:Sat env tm){d:Nat}{v:aj}(hd:tm[d]?=some v):Sat ((d,v)::env) tm:=by
 intro t u hu;simp only[get?]at hu;cases e:Nat.beq d t with
 | true =>simp only[e]at hu;have:d=t:=qt e;subst this;cases hu;exact hd
 | false=>simp only[e]at hu;exact h t u hu
def dj(env:Env)(x:Operand)(k:aj->Prop):Prop :=
 match x with
 | .tmp t=>um env t k
 | .const v=>k v
 | .global g=>k (.pointer (some ⟨g,0,none⟩))
 | .func f=>k (.func (.func f) #[] #[])
theorem dZ{env:Env}{x:Operand}{k:aj->Prop}(h:dj env x k)(hs:Sat env a.tmps):k (a.eval x):=by
 cases x with
 | tmp t =>obtain⟨v,hv,hk⟩:=vE.1 h;have:=hs t v hv;simp only[Act.eval,Jn,this,Option.getD_some];exact hk
 | const v=>exact h
 | global g=>exact h
 | func f=>exact h
def j2(env:Env):List Operand->(aC->Prop)->Prop
 | [],k=>k []
 | x::xs,k=>dj env x λv=>j2 env xs λvs=>k (v::vs)
theorem vj{env:Env}{a:Act}(hs:Sat env a.tmps):∀ {xs:List Operand} {k:aC->Prop},j2 env xs k->k (xs.map a.eval)
 | [],_,h=>h
 | x::xs,k,h=>by have h1:=dZ h hs;exact vj hs (xs:=xs) h1
def mA:Nat->Bool->(Bool->Prop)->Prop
 | 0,true,F=>F true
 | 0,false,F=>F false
 | n+1,b,F=>mA n b F
theorem KY{b:Bool}:mA 0 b F↔F b:=by cases b<;>exact Iff.rfl
theorem Au{b:Bool}(h1:b=true->F true)(h2:b=false->F false):mA 0 b F:=by
 cases b with
 | true=>exact h1 rfl
 | false=>exact h2 rfl
theorem gj{_:Decidable p}(h1:p->F true)(h2:¬p->F false):mA 0 (decide p) F :=
 Au (λh=>h1 (of_decide_eq_true h)) (λh=>h2 (of_decide_eq_false h))
theorem qX{_:Decidable p}(h1:¬p->F true)(h2:p->F false):mA 0 (!decide p) F:=by
 by_cases h:p
 ·simp only[h,decide_true,Bool.not_true];exact h2 h
 simp only[h,decide_false,Bool.not_false];exact h1 h
theorem pW{b:Bool}(h:b=true)(h1:F true):mA 0 b F:=by subst h;exact h1
theorem C1{b:Bool}(h:b=false)(h1:F false):mA 0 b F:=by subst h;exact h1
def dN(w:ad)(b:Nat)(l:aC)(t:TypeId):Prop:=w.heap[b]?=some (.cells l.toArray t (0,0))
structure pP(w:ad)(b:Nat)(l:aC)(t:TypeId)(w':ad):Prop where
 num:b=w.heap.size
 wd:w'=w.alloc (.cells l.toArray t)
structure tZ(w:ad)(b:Nat)(l:aC)(t:TypeId)(w':ad):Prop where
 wd:w'={ w with heap:=w.heap.setIfInBounds b (.cells l.toArray t (0,0)) }
abbrev Ext(w w':ad):Prop:=Below w.heap.size w w'
theorem Ext.refl(w:ad):Ext w w:=Below.refl _ _
theorem Ext.trans{a b c:ad}(h:Ext a b)(k:Ext b c):Ext a c:=Below.trans h (k.mono h.size)
theorem pP.ext{w:ad}{l:aC}{w':ad}(h:pP w b l t w'):Ext w w':=by obtain⟨_,rfl⟩:=h;exact(Below.refl _ _).alloc (Nat.le_refl _) _
theorem pP.ay{w:ad}{l:aC}{w':ad}(h:pP w b l t w'):dN w' b l t:=by obtain⟨rfl,rfl⟩:=h;exact heap_alloc_new w _
theorem dN.lt{w:ad}{l:aC}(h:dN w b l t):b<w.heap.size:=(ku.1 h).1
theorem dN.cell{w:ad}{b:Nat}{l:aC}{t:TypeId}(h:dN w b l t)(i:Nat):w.cell? ⟨b,i,none⟩=l[i]?:=by unfold dN at h;simp[World.cell?,h]
theorem tZ.ay{w:ad}{l:aC}{w':ad}(h:tZ w b l t w')(hb:b<w.heap.size):dN w' b l t:=by obtain⟨rfl⟩:=h;simp[dN,hb]
theorem tZ.size{w:ad}{b:Nat}{l:aC}{t:TypeId}{w':ad}(h:tZ w b l t w'):w'.heap.size=w.heap.size:=by obtain⟨rfl⟩:=h;simp
theorem tZ.other{w:ad}{l:aC}{w':ad}(h:tZ w b l t w'){c:Nat}(hc:c≠b):w'.heap[c]?=w.heap[c]?:=by obtain⟨rfl⟩:=h;simp[Ne.symm hc]
def CF(fz:Nat×Nat)(n:Nat):Prop:=∀j,j<n->¬(fz.1<=j/\j<fz.2)
def pR(w:ad)(b:Nat)(cur:Array aj)(t:TypeId):Prop:=∃fz,w.heap[b]?=some (.cells cur t fz)/\CF fz cur.size
abbrev oR(w:ad)(b:Nat)(l:aC)(t:TypeId):Prop:=pR w b l.toArray t
structure mZ(w:ad)(b:Nat)(l:aC)(t:TypeId)(w':ad):Prop where
 wd:∃fz cs,w.heap[b]?=some (.cells cs t fz)/\w'={ w with heap:=w.heap.setIfInBounds b (.cells l.toArray t fz) }
theorem CF.zero(n:Nat):CF (0,0) n:=λj _ h=>Nat.not_lt_zero j h.2
theorem dN.f{w:ad}{b:Nat}{l:aC}{t:TypeId}(h:dN w b l t):oR w b l t:=⟨(0,0),h,.zero _⟩
theorem pR.lt{w:ad}{cur:Array aj}(h:pR w b cur t):b<w.heap.size:=by obtain⟨fz,h1,_⟩:=h;exact(ku.1 h1).1
theorem pR.km{w w':ad}{cur:Array aj}(h:pR w b cur t)(hk:w'.heap[b]?=w.heap[b]?):pR w' b cur t:=by obtain⟨fz,h1,h2⟩:=h;exact⟨fz,hk.trans h1,h2⟩
theorem pR.cell{w:ad}{b:Nat}{cur:Array aj}{t:TypeId}(h:pR w b cur t)(i:Nat):w.cell? ⟨b,i,none⟩=cur[i]?:=by obtain⟨fz,h1,_⟩:=h;simp[World.cell?,h1]
theorem mZ.F0{w:ad}{c l:aC}{w':ad}(h:mZ w b l t w')(hb:dN w b c t):tZ w b l t w':=by
 obtain⟨fz,cs,h1,h2⟩:=h.wd;have e:=(show w.heap[b]?=some (.cells c.toArray t (0,0))from hb).symm.trans h1;injection e with e
 injection e with _ _ e
 subst e;exact⟨h2⟩
theorem mZ.other{w:ad}{l:aC}{w':ad}(h:mZ w b l t w'){c:Nat}(hc:c≠b):w'.heap[c]?=w.heap[c]?:=by obtain⟨fz,cs,_,rfl⟩:=h.wd;simp[Ne.symm hc]
theorem mZ.row{w:ad}{l:aC}{cur:Array aj}{w':ad}(h:mZ w b l t w')(hb:pR w b cur t)(hl:l.length=cur.size):pR w' b l.toArray t:=by
 obtain⟨fz,cs,h1,rfl⟩:=h.wd;obtain⟨fz',h2,h3⟩:=hb;have hlt:=(ku.1 h1).1;have e:=h1.symm.trans h2;injection e with e
 injection e with e1 _ e2
 subst e1 e2;exact⟨fz,by simp[hlt],by simpa [hl]using h3⟩
structure Tw(B:Nat)(w w':ad):Prop where
 os:w'.os=w.os
 tape:w'.tape=w.tape
 output:w'.output=w.output
 size:w.heap.size<=w'.heap.size
 low:∀k,k<B->w'.heap[k]?=w.heap[k]?
 cS:∀(k:Nat) (c:Array aj) (t:TypeId) (f:Nat×Nat),w.heap[k]?=some (Obj.cells c t f)->w'.heap[k]?=some (Obj.cells c t f)
theorem Ext.tw{w w':ad}(h:Ext w w')(hB:B<=w.heap.size):Tw B w w' :=
 ⟨h.os,h.tape,h.output,h.size,λk hk=>h.block k aa,λk c t f hk=>(h.block k (ku.1 hk).1).trans hk⟩
theorem Tw.mono{B':Nat}{a b:ad}(h:Tw B a b)(hB:B'<=B):Tw B' a b:=⟨h.os,h.tape,h.output,h.size,λk hk=>h.low k aa,h.cS⟩
theorem dN.tw{w w':ad}{l:aC}(h:dN w b l t)(hb:Tw B w w'):dN w' b l t:=hb.cS _ _ _ _ h
structure bE(P:Program)(s:Sem aj)(w:ad)(k:aj->ad->Prop):Prop where
 ex:∃v w',s.run P w=.ok v w'/\k v w'
theorem bE.of{s:Sem aj}{w:ad}{k:aj->ad->Prop}{v:aj}{w':ad}(h:s.run P w=.ok v w')(hk:k v w'):bE P s w k:=⟨v,w',h,hk⟩
inductive pU where
 | bool|int (k:IntKind)|string|pointer (e:TypeId)|slice (e:TypeId)|array (n:Nat) (e:TypeId)|map (k e:TypeId)|struct (fs:List (Nat×TypeId))|blank|func|iface|other
def eS:TypeDesc->pU
 | .bool=>.bool|.int k=>.int k|.string=>.string|.pointer e=>.pointer e|.slice e=>.slice e|.array n e=>.array n e|.map k e=>.map k e
 | .struct fs=>(match fs.any λf=>f.name == "_" with|true=>.blank|false=>.struct (fs.toList.map λf=>(f.offset,f.type)))|.func _ _ _=>.func|.interface _=>.iface|_=>.other
structure TD where
 under:pU
 size:Nat
 bytes:Nat
 zero:Option aj
 eq:Bool:=false
def fk:List TD->Nat->(TD->Prop)->Prop
 | [],_,_=>False
 | d::_,0,k=>k d
 | _::r,t+1,k=>fk r t k
theorem PR{T:List TD}{t:Nat}{k:TD->Prop}:fk T t k↔∃d,T[t]?=some d/\k d:=by
 induction T generalizing t with
 | nil=>simp[fk]
 | cons d r ih =>
  cases t with
  | zero=>simp[fk]
  | succ t=>simp only[fk,y8];exact ih
structure ed(P:Program)(t:TypeId)(d:TD):Prop where
 under:∃d0,P.underlying t=some d0/\eS d0=d.under
 info:∃i,P.info? t=some i/\i.size=d.size/\i.bytes=d.bytes/\i.zero=d.zero
 eq:d.eq=true->P.eqGuardType P.depth t=false/\P.stoodInHeld t=false
def cg(P:Program)(T:List TD):Prop:=∀t d,T[t]?=some d->ed P t d
theorem im{T:List TD}(hT:cg P T){t:Nat}{k:TD->Prop}(h:fk T t k):∃d,ed P t d/\k d:=by obtain⟨d,hd,hk⟩:=PR.1 h;exact⟨d,hT t d hd,hk⟩
def PN(P:Program):List (Option pU×Option (Nat×Nat×Option aj)) :=
 (List.range P.types.size).map λt=>((P.underlying t).map eS,(P.info? t).map λi=>(i.size,i.bytes,i.zero))
def acO(P:Program)(es:List TypeId):Bool:=es.all λt=>!P.eqGuardType P.depth t&&!P.stoodInHeld t
theorem akH{T:List TD}{es:List TypeId}(h:PN P=T.map λd=>(some d.under,some (d.size,d.bytes,d.zero)))(h':acO P es=true)
  (h'':(T.zipIdx.all λp=>!p.1.eq||es.contains p.2)=true):cg P T:=by
 intro t d hd;have h1:(PN P)[t]?=some (some d.under,some (d.size,d.bytes,d.zero)):=by rw[h,ib,hd];rfl
 unfold PN at h1;rw[ib]at h1;by_cases ht:t<P.types.size
 ·rw[List.getElem?_range ht]at h1;simp only[gQ,mR,Prod.mk.injEq]at h1;obtain⟨h2,h3⟩:=h1;refine⟨?_,?_,λhe=>?_⟩
  ·cases hu:P.underlying t with
   | none=>simp[hu]at h2
   | some d0=>simp only[hu,gQ,mR]at h2;exact⟨d0,rfl,h2⟩
  ·cases hi:P.info? t with
   | none=>simp[hi]at h3
   | some i =>simp only[hi,gQ,mR,Prod.mk.injEq]at h3;exact⟨i,rfl,h3.1,h3.2.1,h3.2.2⟩
  have hm:(d,t)∈T.zipIdx:=by rw[List.mem_iff_getElem?];exact⟨t,by rw[List.getElem?_zipIdx,hd];simp⟩
  have h4:=bc.1 h'' _ hm;simp only[he,Bool.not_true,Bool.false_or,List.contains_iff_mem]at h4;have h5:=bc.1 h' _ h4;simpa using h5
 rw[List.getElem?_eq_none (by simpa using ht)]at h1;simp at h1
section
variable{P:Program}{t:TypeId}{d:TD}
theorem ed.sH(h:ed P t d)(w:ad):∃d0,(underlying t).run P w=.ok d0 w/\eS d0=d.under:=by obtain⟨d0,h1,h2⟩:=h.under;exact⟨d0,run_underlying h1 w,h2⟩
theorem ed.slice(h:ed P t d){e:TypeId}(hu:d.under=.slice e)(w:ad):(underlying t).run P w=.ok (.slice e) w:=by obtain⟨d0,h1,h2⟩:=h.sH w;rw[hu]at h2;cases d0<;>first|(simp_all[eS];done)|(simp only[eS]at h2;split at h2<;>cases h2)
theorem ed.array(h:ed P t d){n e:Nat}(hu:d.under=.array n e)(w:ad):(underlying t).run P w=.ok (.array n e) w:=by obtain⟨d0,h1,h2⟩:=h.sH w;rw[hu]at h2;cases d0<;>first|(simp_all[eS];done)|(simp only[eS]at h2;split at h2<;>cases h2)
theorem ed.string(h:ed P t d)(hu:d.under=.string)(w:ad):(underlying t).run P w=.ok .string w:=by obtain⟨d0,h1,h2⟩:=h.sH w;rw[hu]at h2;cases d0<;>first|(simp_all[eS];done)|(simp only[eS]at h2;split at h2<;>cases h2)
theorem ed.bool(h:ed P t d)(hu:d.under=.bool)(w:ad):(underlying t).run P w=.ok .bool w:=by obtain⟨d0,h1,h2⟩:=h.sH w;rw[hu]at h2;cases d0<;>first|(simp_all[eS];done)|(simp only[eS]at h2;split at h2<;>cases h2)
theorem ed.int(h:ed P t d){k:IntKind}(hu:d.under=.int k)(w:ad):(underlying t).run P w=.ok (.int k) w:=by obtain⟨d0,h1,h2⟩:=h.sH w;rw[hu]at h2;cases d0<;>first|(simp_all[eS];done)|(simp only[eS]at h2;split at h2<;>cases h2)
theorem ed.pointer(h:ed P t d){e:TypeId}(hu:d.under=.pointer e)(w:ad):(underlying t).run P w=.ok (.pointer e) w:=by obtain⟨d0,h1,h2⟩:=h.sH w;rw[hu]at h2;cases d0<;>first|(simp_all[eS];done)|(simp only[eS]at h2;split at h2<;>cases h2)
theorem ed.map(h:ed P t d){k e:TypeId}(hu:d.under=.map k e)(w:ad):(underlying t).run P w=.ok (.map k e) w:=by obtain⟨d0,h1,h2⟩:=h.sH w;rw[hu]at h2;cases d0<;>first|(simp_all[eS];done)|(simp only[eS]at h2;split at h2<;>cases h2)
theorem ed.iface(h:ed P t d)(hu:d.under=.iface)(w:ad):∃ms,(underlying t).run P w=.ok (.interface ms) w:=by obtain⟨d0,h1,h2⟩:=h.sH w;rw[hu]at h2;cases d0<;>first|(simp_all[eS];done)|(simp only[eS]at h2;split at h2<;>cases h2)
theorem ed.func(h:ed P t d)(hu:d.under=.func)(w:ad):∃a b c,(underlying t).run P w=.ok (.func a b c) w:=by obtain⟨d0,h1,h2⟩:=h.sH w;rw[hu]at h2;cases d0<;>first|(simp_all[eS];done)|(simp only[eS]at h2;split at h2<;>cases h2)
theorem Y9{d0:TypeDesc}{l:List (Nat×TypeId)}(h:eS d0=.struct l):∃fs,d0=.struct fs/\(fs.any λf=>f.name == "_")=false/\l=fs.toList.map λf=>(f.offset,f.type):=by
 cases d0 with
 | struct fs =>
  simp only[eS]at h;cases hn:fs.any λf=>f.name == "_" with
  | true=>simp only[hn]at h;cases h
  | false=>simp only[hn]at h;cases h;exact⟨fs,rfl,hn,rfl⟩
 | _=>simp[eS]at h
theorem ed.struct(h:ed P t d){l:List (Nat×TypeId)}(hu:d.under=.struct l)(w:ad):∃fs,(underlying t).run P w=.ok (.struct fs) w/\l=fs.toList.map λf=>(f.offset,f.type):=by obtain⟨d0,h1,h2⟩:=h.sH w;obtain⟨fs,rfl,_,hl⟩:=Y9 (h2.trans hu);exact⟨fs,h1,hl⟩
theorem ed.nI(h:ed P t d)(w:ad):(sizeOf t).run P w=.ok d.size w:=by obtain⟨i,hi,hs,_⟩:=h.info;simp[sizeOf,typeInfo,hi,hs]
theorem ed.JK(h:ed P t d){z:aj}(hz:d.zero=some z)(w:ad):(zeroValue t).run P w=.ok z w:=by obtain⟨i,hi,_,_,h4⟩:=h.info;simp[zeroValue,typeInfo,hi,h4,hz]
end
structure Cx where
 P:Program
 T:List TD
 n:Nat
 live:au
 r:Option Nat:=none
theorem addr_add(b o n:Nat):(⟨b,o,none⟩:Addr).add n=⟨b,o+n,none⟩:=by
 unfold Addr.add;split
 ·rename_i h;subst h;rfl
 rfl
def rM:pU->Bool
 | .struct _|.array _ _|.blank=>true
 | _=>false
theorem ed.isAgg{P:Program}{t:TypeId}{d:TD}(h:ed P t d)(w:ad):(isAgg t).run P w=.ok (rM d.under) w:=by
 obtain⟨d0,h1,h2⟩:=h.sH w;unfold Go.isAgg;simp only[eU,h1,fb,<-h2];cases d0 with
 | struct fs=>simp only[eS];cases(fs.any λf=>f.name == "_")<;>simp[rM]
 | _=>simp[eS,rM]
def Iu(w:ad)(b:Nat):Nat->Nat->(aC->Prop)->Prop
 | 0,_,k=>k []
 | n+1,o,k=>∃v,w.cell? ⟨b,o,none⟩=some v/\Iu w b n (o+1) λl=>k (v::l)
def NQ(w:ad)(b o n:Nat)(k:aC->Prop):Prop :=
 ∃l:aC,l.length=n/\(∀j v,l[j]?=some v->w.cell? ⟨b,o+j,none⟩=some v)/\k l
theorem Vn{w:ad}{b:Nat}:∀ {n o:Nat} {k:aC->Prop},Iu w b n o k->NQ w b o n k
 | 0,o,k,h=>⟨[],rfl,λj v hj=>by simp at hj,h⟩
 | n+1,o,k,⟨v,hv,h⟩=>by
  obtain⟨l,hl,hc,hk⟩:=Vn h;refine⟨v::l,by simp[hl],λj u hj=>?_,hk⟩;cases j with
  | zero=>simp at hj;subst hj;exact hv
  | succ j =>simp at hj;have:=hc j u hj;rw[show o+(j+1)=o+1+j by omega];exact this
def we(C:Cx)(t:TypeId)(v:aj)(w:ad)(k:aj->ad->Prop):Prop :=
 match v with
 | .pointer (some ⟨b,o,none⟩)=>fk C.T t λd =>
  match rM d.under with
  | true=>(match Nat.ble d.size 16 with
   | true=>Iu w b d.size o λl=>k (.agg l.toArray) w
   | false=>NQ w b o d.size λl=>k (.agg l.toArray) w)
  | false=>∃u,w.cell? ⟨b,o,none⟩=some u/\k u w
 | _=>False
theorem ajF{d:TD}(hd:ed P t d)(ha:rM d.under=true){w:ad}{b o:Nat}{l:aC}
  (hl:l.length=d.size) (hc:∀j v,l[j]?=some v->w.cell? ⟨b,o+j,none⟩=some v):(loadVar t ⟨b,o,none⟩).run P w=.ok (.agg l.toArray) w:=by
 have h1:(isAgg t).run P w=.ok true w:=by rw[hd.isAgg,ha]
 have h2:=run_loadCells_list (P:=P) w ⟨b,o,none⟩ l (λj v hj=>by rw[addr_add];exact hc j v hj);rw[hl]at h2;simp[loadVar,h1,hd.nI,h2]
theorem ajG{d:TD}(hd:ed P t d)(ha:rM d.under=false){w:ad}{a:Addr}{u:aj}
  (hc:w.cell? a=some u):(loadVar t a).run P w=.ok u w:=by
 have h1:(isAgg t).run P w=.ok false w:=by rw[hd.isAgg,ha]
 simp[loadVar,h1,hc]
theorem Vp{C:Cx}(hT:cg C.P C.T){t:TypeId}{v:aj}{w:ad}{k:aj->ad->Prop}(h:we C t v w k) :
  ∃a u,v=.pointer (some a)/\(loadVar t a).run C.P w=.ok u w/\k u w:=by
 unfold we at h;split at h
 ·rename_i b o;replace h:=im hT h;obtain⟨d,hd,h⟩:=h;split at h
  ·rename_i ha;have h':NQ w b o d.size λl=>k (.agg l.toArray) w:=by
    split at h
    ·exact Vn h
    exact h
   obtain⟨l,hl,hc,hk⟩:=h';exact⟨_,_,rfl,ajF hd ha hl hc,hk⟩
  rename_i ha;obtain⟨u,hu,hk⟩:=h;exact⟨_,_,rfl,ajG hd ha hu,hk⟩
 exact h.elim
theorem afF{C:Cx}(hT:cg C.P C.T){t:TypeId}{v:aj}{w:ad}{k:aj->ad->Prop}(h:we C t v w k):bE C.P (Instr.loadAt t v) w k:=by obtain⟨a,u,rfl,hr,hk⟩:=Vp hT h;exact .of (by simp[Instr.loadAt,Instr.sureAddr,hr]) hk
def vx(v:aj)(k:aC->Prop):Prop:=match v with|.agg ⟨l⟩=>k l|v=>k [v]
theorem CT{v:aj}{k:aC->Prop}(h:vx v k):k v.cells.toList:=by cases v<;>exact h
def IG:aC->Prop->Prop
 | [],k=>k
 | v::r,k=>match v with|.agg _=>False|.tuple _=>False|_=>IG r k
theorem Wc:∀ {l:aC} {k:Prop},IG l k->(∀v∈l,v.oneCell'=true)/\k
 | [],_,h=>⟨λ_ h=>by simp at h,h⟩
 | v::r,k,h=>by
  have key:v.oneCell'=true/\IG r k:=by cases v<;>first|exact⟨rfl,h⟩|exact h.elim
  obtain⟨h1,h2⟩:=Wc key.2;refine⟨λu hu=>?_,h2⟩;rcases bP.1 hu with rfl|hu
  ·exact key.1
  exact h1 u hu
def gS:aC->Nat->aC->(aC->Prop)->Prop
 | c,0,[],k=>k c
 | _::c,0,v::l,k=>gS c 0 l λr=>k (v::r)
 | u::c,o+1,l,k=>gS c o l λr=>k (u::r)
 | [],_,_,_=>False
theorem JC:∀ {c:aC} {o:Nat} {l:aC} {k:aC->Prop},gS c o l k->o+l.length<=c.length/\k (c.take o++l++c.drop (o+l.length))
 | c,0,[],k,h=>by
  have h:k c:=by cases c<;>exact h
  exact⟨ah,by simpa using h⟩
 | u::c,0,v::l,k,h=>by obtain⟨h1,h2⟩:=JC (c:=c) (o:=0) (l:=l) h;refine⟨by simp at h1 |-;omega,?_⟩;simpa [sq]using h2
 | u::c,o+1,l,k,h=>by
  have h':gS c o l λr=>k (u::r):=by cases l<;>exact h
  obtain⟨h1,h2⟩:=JC h';refine⟨by simp;omega,?_⟩;rw[show o+1+l.length=(o+l.length)+1 by omega];simpa using h2
 | [],0,v::l,k,h=>h.elim
 | [],o+1,l,k,h=>by cases l<;>exact h.elim
theorem aj0{w:ad}{cs:Array aj}{l:aC}(h:pR w b cs t):mZ w b l t (w.setRow b l.toArray):=by
 obtain⟨fz,h1,_⟩:=h;refine⟨fz,cs,h1,?_⟩;have hlt:=(ku.1 h1).1;have hv:w.heap[b]=.cells cs t fz:=(ku.1 h1).2;unfold World.setRow;congr 1;apply Array.ext
 ·simp
 intro i h1 h2;by_cases e:b=i
 ·subst e;simp[Xe,hv]
 rw[Array.getElem_setIfInBounds (by simpa using h1),Xe,ae e,ae e]
theorem Pk(P:Program)(g o:Nat)(t:TypeId)(fz:Nat×Nat):∀(vs:aC) (i:Nat) (cur:Array aj) (w:ad),w.heap[g]?=some (.cells cur t fz)->CF fz cur.size->o+i+vs.length<=cur.size->(∀v∈vs,v.oneCell'=true) ->
  (storeCells ⟨g,o,none⟩ vs i).run P w=.ok () (w.setRow g (cur.toList.take (o+i)++vs++cur.toList.drop (o+i+vs.length)).toArray)
 | [],i,cur,w,hg,_,_,_=>by simp only[storeCells,List.append_nil,List.length_nil,ln,eW,Xi];rw[setRow_self w g cur t fz hg];rfl
 | v::rest,i,cur,w,hg,MF,hl,h1=>by
  have hi:o+i<cur.size:=by simp at hl;omega
  have adJ:(⟨g,o,none⟩:Addr).add i=⟨g,o+i,none⟩:=by unfold Addr.add;split<;>simp_all
  have hcell:w.cell? ⟨g,o+i,none⟩=some cur[o+i]:=by simp[World.cell?,hg,hi]
  have aej:w.frozen? ⟨g,o+i,none⟩=false:=by have hz:=MF (o+i) hi;obtain⟨lo,qe⟩:=fz;simp only[World.frozen?,hg,Bool.and_eq_false_iff,decide_eq_false_iff_not];simp only at hz;omega
  have hst:(store ((⟨g,o,none⟩:Addr).add i) v).run P w=.ok () (w.setRow g (cur.setIfInBounds (o+i) v)):=by rw[adJ,run_store P w _ v _ (h1 v ah),hcell];simp[aej,setCell_eq_setRow w g (o+i) cur t fz v hg]
  have ih:=Pk P g o t fz rest (i+1) (cur.setIfInBounds (o+i) v) (w.setRow g (cur.setIfInBounds (o+i) v)) (setRow_heap w g cur _ t _ hg) (by simpa using MF) (by simp at hl |-;omega) (λx hx=>h1 x (by simp[hx]));simp only[storeCells,eU,hst,fb,ih,setRow_setRow];congr 3;have e:=list_seg_step cur.toList (o+i) v rest (by simp at hl |-;omega);simpa [aiq,Nat.add_assoc]using e
def PD(C:Cx)(t:TypeId)(a v:aj)(w:ad)(k:ad->Prop):Prop :=
 match a with
 | .pointer (some ⟨b,o,none⟩)=>fk C.T t λd=>vx v λl =>
  match Nat.beq l.length d.size with
  | true=>IG l (∃c t',oR w b c t'/\gS c o l λc'=>∀w',mZ w b c' t' w'->k w')
  | false=>False
 | _=>False
theorem aks{C:Cx}(hT:cg C.P C.T){t:TypeId}{a v:aj}{w:ad}{k:ad->Prop}(h:PD C t a v w k) :
  ∃w',(Instr.storeAt t a v).run C.P w=.ok () w'/\k w':=by
 unfold PD at h;split at h
 ·rename_i b o;replace h:=im hT h;obtain⟨d,hd,h⟩:=h;replace h:=CT h;split at h
  ·rename_i hl;have hl:=qt hl;obtain⟨h1,c,t',hb,l8⟩:=Wc h;obtain⟨hle,hk⟩:=JC l8;refine⟨_,?_,hk _ (aj0 hb)⟩;obtain⟨fz,hb1,hb2⟩:=hb;have hs:=Pk C.P b o t' fz v.cells.toList 0 c.toArray w hb1 hb2 (by simpa using hle) h1;have hsz:v.cells.size=d.size:=by simpa using hl
   simp only[ln]at hs;simp only[Instr.storeAt,Instr.sureAddr,storeVar,eU,fP,fb,hd.nI,hsz,ne_eq,not_true,if_false];simpa using hs
  exact h.elim
 exact h.elim
def Ga(d:TD)(k:aj->Prop):Prop:=match d.zero with|some z=>k z|none=>False
theorem ZS{d:TD}{k:aj->Prop}(h:Ga d k):∃z,d.zero=some z/\k z:=by
 unfold Ga at h;split at h
 ·rename_i z hz;exact⟨z,hz,h⟩
 exact h.elim
def QM(C:Cx)(t:TypeId)(w:ad)(k:aj->ad->Prop):Prop :=
 fk C.T t λd=>Ga d λz=>vx z λl=>∀w' b,pP w b l t w'->k (.pointer (some ⟨b,0,none⟩)) w'
theorem aaF{C:Cx}(hT:cg C.P C.T){t:TypeId}{w:ad}{k:aj->ad->Prop}(h:QM C t w k):bE C.P (Instr.alloc t true (.tuple #[])) w k:=by replace h:=im hT h;obtain⟨d,hd,h⟩:=h;replace h:=ZS h;obtain⟨z,hz,h⟩:=h;replace h:=CT h;refine .of (v:=.pointer (some ⟨w.heap.size,0,none⟩)) (w':=w.alloc (.cells z.cells.toList.toArray t)) ?_ (h _ _ ⟨rfl,rfl⟩);simp[Instr.alloc,hd.JK hz,newVar,newRow]
def Ra(t:TypeId)(v:aj)(w:ad)(k:aj->ad->Prop):Prop :=
 vx v λl=>∀w' b,pP w b l t w'->k (.pointer (some ⟨b,0,none⟩)) w'
theorem aa5{v:aj}{w:ad}{k:aj->ad->Prop}(h:Ra t v w k):bE P (Instr.box t v) w k:=by replace h:=CT h;refine .of (v:=.pointer (some ⟨w.heap.size,0,none⟩)) (w':=w.alloc (.cells v.cells.toList.toArray t)) ?_ (h _ _ ⟨rfl,rfl⟩);simp[Instr.box,newVar,newRow]
def bW(a:Option Addr):Nat:=match a with|some p=>p.block|none=>0
def bM(a:Option Addr):Nat:=match a with|some p=>p.off|none=>0
def Plain(a:Option Addr):Prop:=a=some ⟨bW a,bM a,none⟩
def placeOf(o i s:Nat):Nat:=match s with|1=>o+i|s=>o+i*s
theorem WD(o i s:Nat):placeOf o i s=o+i*s:=by
 unfold placeOf;split
 ·simp
 rfl
def yN(C:Cx)(t:TypeId)(x i:aj)(w:ad)(k:aj->ad->Prop):Prop :=
 match i with
 | .int _ i=>fk C.T t λd =>
  match d.under,x with
  | .slice e,.slice a len _=>fk C.T e λde=>(0<=i/\i<(len:Int))/\Plain a/\k (.pointer (some ⟨bW a,placeOf (bM a) i.toNat de.size,none⟩)) w
  | .array len e,.pointer (some ⟨b,o,none⟩)=>fk C.T e λde=>(0<=i/\i<(len:Int))/\k (.pointer (some ⟨b,placeOf o i.toNat de.size,none⟩)) w
  | _,_=>False
 | _=>False
theorem ae0{C:Cx}(hT:cg C.P C.T){t:TypeId}{x i:aj}{w:ad}{k:aj->ad->Prop}(h:yN C t x i w k):bE C.P (Instr.indexAt t x i) w k:=by
 unfold yN at h;split at h
 ·rename_i ki i;replace h:=im hT h;obtain⟨d,hd,h⟩:=h;split at h
  ·rename_i e a len cap hu;replace h:=im hT h;obtain⟨de,hde,hi,hp,hk⟩:=h;have cZ:=hd.slice hu w;refine .of ?_ hk;rw[hp];simp[Instr.indexAt,asIntOf,cZ,hi,hde.nI,addr_add,WD,bW,bM]
  ·rename_i len e b o hu;replace h:=im hT h;obtain⟨de,hde,hi,hk⟩:=h;have cZ:=hd.array hu w;refine .of ?_ hk;simp[Instr.indexAt,Instr.sureAddr,asIntOf,cZ,hi,hde.nI,addr_add,WD]
  exact h.elim
 exact h.elim
def AE(C:Cx)(d:pU)(f:Nat)(k:Nat->TypeId->TD->Prop):Prop :=
 match d with
 | .struct fs=>(match fs[f]? with
  | some fl=>fk C.T fl.2 λdf=>k fl.1 fl.2 df
  | none=>False)
 | _=>False
def AD(C:Cx)(t:TypeId)(x:aj)(f:Nat)(w:ad)(k:aj->ad->Prop):Prop :=
 match x with
 | .pointer (some ⟨b,o,none⟩)=>fk C.T t λd=>AE C d.under f λoff _ df =>
  match df.size with
  | 0=>False
  | _+1=>k (.pointer (some ⟨b,o+off,none⟩)) w
 | _=>False
theorem SR{C:Cx}(hT:cg C.P C.T){t:TypeId}{d:TD}(hd:ed C.P t d){f:Nat}{k:Nat->TypeId->TD->Prop}(h:AE C d.under f k)(w:ad) :
  ∃fs fl df,(underlying t).run C.P w=.ok (.struct fs) w/\fs[f]?=some fl/\ed C.P fl.type df/\k fl.offset fl.type df:=by
 unfold AE at h;split at h
 ·rename_i l hu;obtain⟨fs,hr,rfl⟩:=hd.struct hu w;split at h
  ·rename_i fl hfl;rw[ib]at hfl;cases hf:fs.toList[f]? with
   | none=>simp[hf]at hfl
   | some g =>simp only[hf,gQ,mR]at hfl;subst hfl;obtain⟨df,hdf,hk⟩:=im hT h;exact⟨fs,g,df,hr,by simpa using hf,hdf,hk⟩
  exact h.elim
 exact h.elim
theorem acX{C:Cx}(hT:cg C.P C.T){t:TypeId}{x:aj}{f:Nat}{w:ad}{k:aj->ad->Prop}(h:AD C t x f w k):bE C.P (Instr.fieldAt t x f) w k:=by
 unfold AD at h;split at h
 ·rename_i b o;replace h:=im hT h;obtain⟨d,hd,h⟩:=h;replace h:=SR hT hd h w;obtain⟨fs,fl,df,cZ,hfl,hdf,hk⟩:=h;split at hk
  ·exact hk.elim
  rename_i m hm;refine .of ?_ hk;simp[Instr.fieldAt,Instr.sureAddr,cZ,hfl,fieldPlace,hdf.nI,hm,addr_add]
 exact h.elim
def BC(d:TD)(off:Nat)(l:aC)(k:aj->Prop):Prop :=
 match rM d.under with
 | true=>k (.agg ((l.drop off).take d.size).toArray)
 | false=>(match l[off]? with|some v=>k v|none=>False)
def AF(C:Cx)(t:TypeId)(x:aj)(f:Nat)(w:ad)(k:aj->ad->Prop):Prop :=
 match x with
 | .agg ⟨l⟩=>fk C.T t λd=>AE C d.under f λoff _ df=>BC df off l λv=>k v w
 | _=>False
theorem Wn{d:TD}(hd:ed P t d){off:Nat}{l:aC}{w:ad}{k:aj->Prop}(h:BC d off l k) :
  ∃v,(part t ⟨l⟩ off).run P w=.ok v w/\k v:=by
 unfold BC at h;split at h
 ·rename_i ha;have h1:(isAgg t).run P w=.ok true w:=by rw[hd.isAgg,ha]
  refine⟨_,?_,h⟩;simp only[part,eU,h1,fb,if_true,hd.nI,fP];congr 2;apply sr;simp
 rename_i ha;have h1:(isAgg t).run P w=.ok false w:=by rw[hd.isAgg,ha]
 split at h
 ·rename_i v hv;refine⟨v,?_,h⟩;have hv':(⟨l⟩:Array aj)[off]?=some v:=by simpa using hv
  simp[part,h1,hv']
 exact h.elim
theorem ac0{C:Cx}(hT:cg C.P C.T){t:TypeId}{x:aj}{f:Nat}{w:ad}{k:aj->ad->Prop}(h:AF C t x f w k):bE C.P (Instr.field t x f) w k:=by
 unfold AF at h;split at h
 ·rename_i l;replace h:=im hT h;obtain⟨d,hd,h⟩:=h;replace h:=SR hT hd h w;obtain⟨fs,fl,df,cZ,hfl,hdf,hk⟩:=h;obtain⟨v,hr,hk⟩:=Wn (w:=w) hdf hk;refine .of ?_ hk;simp[Instr.field,cZ,hfl,asAgg,hr]
 exact h.elim
def yO(C:Cx)(t:TypeId)(x i:aj)(w:ad)(k:aj->ad->Prop):Prop :=
 match i with
 | .int _ i=>fk C.T t λd =>
  match d.under,x with
  | .string,.string ⟨⟨l⟩⟩=>0<=i/\∃c:UInt8,l[i.toNat]?=some c/\k (.int .u8 (c.toNat:Int)) w
  | .array len e,.agg ⟨l⟩=>fk C.T e λde=>(0<=i/\i<(len:Int))/\BC de (i.toNat*de.size) l λv=>k v w
  | _,_=>False
 | _=>False
theorem ae7{C:Cx}(hT:cg C.P C.T){t:TypeId}{x i:aj}{w:ad}{k:aj->ad->Prop}(h:yO C t x i w k):bE C.P (Instr.index t x i) w k:=by
 unfold yO at h;split at h
 ·rename_i ki i;replace h:=im hT h;obtain⟨d,hd,h⟩:=h;split at h
  ·rename_i l hu;obtain⟨hi,c,hc,hk⟩:=h;have cZ:=hd.string hu w;have hc':(jY ⟨l⟩)[i.toNat]?=some c:=by have hlt:i.toNat<l.length:=(dH.1 hc).1;have mJ:i.toNat<(jY ⟨l⟩).size:=hlt;rw[ByteArray.getElem?_lt' _ _ mJ];have:=(dH.1 hc).2;exact ax some this
   refine .of ?_ hk;simp[Instr.index,asIntOf,cZ,hi,hc']
  ·rename_i len e l hu;replace h:=im hT h;obtain⟨de,hde,hi,hk⟩:=h;have cZ:=hd.array hu w;obtain⟨v,hr,hk⟩:=Wn (w:=w) hde hk;refine .of ?_ hk;simp[Instr.index,asIntOf,cZ,hi,hde.nI,hr]
  exact h.elim
 exact h.elim
def pA:aC->Nat->(aj->Prop)->Prop
 | [],_,_=>False
 | v::_,0,k=>k v
 | _::r,i+1,k=>pA r i k
theorem EM{l:aC}{k:aj->Prop}:pA l i k↔∃v,l[i]?=some v/\k v:=by
 induction l generalizing i with
 | nil=>simp[pA]
 | cons d r ih =>
  cases i with
  | zero=>simp[pA]
  | succ t=>simp only[pA,y8];exact ih
def Df(x:aj)(i:Nat)(w:ad)(k:aj->ad->Prop):Prop :=
 match x with
 | .tuple ⟨l⟩=>pA l i λv=>k v w
 | _=>False
theorem acU{x:aj}{w:ad}{k:aj->ad->Prop}(h:Df x i w k):bE P (Instr.extract x i) w k:=by
 unfold Df at h;split at h
 ·rename_i l;obtain⟨v,hv,hk⟩:=EM.1 h;have hv':(⟨l⟩:Array aj)[i]?=some v:=by simpa using hv
  refine .of ?_ hk;simp[Instr.extract,hv']
 exact h.elim
abbrev cY(x:Int):Prop := -9223372036854775808<=x/\x<=9223372036854775807
def wr(k:IntKind)(x:Int):Int :=
 match k with
 | .u8=>x%256|.u16=>x%65536|.u32=>x%4294967296|.u64=>x%18446744073709551616
 | k=>k.wrap x
theorem Qu(k:IntKind)(x:Int):wr k x=k.wrap x:=by cases k<;>simp[wr,IntKind.wrap,IntKind.bits,IntKind.signed]
theorem wrap_i64{x:Int}(h:cY x):IntKind.i64.wrap x=x:=by
 obtain⟨h1,h2⟩:=h;have key:∀m p:Int,m=18446744073709551616->p=9223372036854775808->(if(true&&decide (x%m>=p))=true then x%m-m else x%m)=x:=by rintro m p rfl rfl;simp only[Bool.true_and,ge_iff_le,eQ];split<;>omega
 exact key (2^64) (2^63) ai ai
def pZ(k:IntKind)(x:Int)(c:aj->Prop):Prop :=
 match k with
 | .i64=>cY x/\c (.int .i64 x)
 | k=>c (.int k (wr k x))
theorem ui{k:IntKind}{x:Int}{c:aj->Prop}(h:pZ k x c):c (.int k (k.wrap x)):=by
 cases k<;>first
  | (rw[<-Qu];exact h)
  | (rw[wrap_i64 h.1];exact h.2)
def cI(op:BinOp)(k:IntKind)(x y:Int):Int :=
 let a:=kL k.bits x
 let b:=kL k.bits y
 k.wrap (match op with
  | .and=>a&&&b
  | .or=>a|||b
  | .xor=>a ^^^ b
  | _=>a &&& ~~~b).toNat
def rL(op:BinOp)(k:IntKind)(x y:Int)(c:aj->Prop):Prop :=
 match op with
 | .add=>pZ k (x+y) c
 | .sub=>pZ k (x-y) c
 | .mul=>pZ k (x*y) c
 | .quo=>((0<=x/\0<y)/\pZ k (x/y) c)\/(0<y/\pZ k (x.tdiv y) c)
 | .rem=>((0<=x/\0<y)/\c (.int k (x%y)))\/(0<y/\c (.int k (x.tmod y)))
 | .and=>c (.int k (cI .and k x y))
 | .or=>c (.int k (cI .or k x y))
 | .xor=>c (.int k (cI .xor k x y))
 | .andNot=>c (.int k (cI .andNot k x y))
 | .eql=>c (.bool (decide (x=y)))
 | .neq=>c (.bool (decide (x≠y)))
 | .lss=>c (.bool (decide (x<y)))
 | .leq=>c (.bool (decide (x<=y)))
 | .gtr=>c (.bool (decide (y<x)))
 | .geq=>c (.bool (decide (y<=x)))
 | .shl=>(0<=y/\y<=64)/\pZ k (x*2^(min y.toNat k.bits)) c
 | .shr=>(0<=y/\y<=64)/\c (.int k (x/2^(min y.toNat k.bits)))
theorem afa{k:IntKind}{x y:Int}{w:ad}{c:aj->ad->Prop}(h:rL op k x y λv=>c v w) :
  bE P (binOp op t (.int k x) (.int k y)) w c:=by
 cases op;case add=>exact .of (v:=.int k (k.wrap (x+y))) (w':=w) (by simp[binOp,Op.intArith]) (ui (k:=k) (x:=x+y) (c:=λv=>c v w) h)
 case sub=>exact .of (v:=.int k (k.wrap (x-y))) (w':=w) (by simp[binOp,Op.intArith]) (ui (k:=k) (x:=x-y) (c:=λv=>c v w) h)
 case mul=>exact .of (v:=.int k (k.wrap (x*y))) (w':=w) (by simp[binOp,Op.intArith]) (ui (k:=k) (x:=x*y) (c:=λv=>c v w) h)
 case quo =>
  rcases h with⟨⟨h1,h2⟩,h⟩|⟨h2,h⟩
  rotate_left
  ·exact .of (v:=.int k (k.wrap (x.tdiv y))) (w':=w) (by simp[binOp,Op.intDiv,show y≠0 by omega]) (ui (k:=k) (x:=x.tdiv y) (c:=λv=>c v w) h)
  have e:x.tdiv y=x/y:=Int.tdiv_eq_ediv_of_nonneg h1;exact .of (v:=.int k (k.wrap (x.tdiv y))) (w':=w) (by simp[binOp,Op.intDiv,show y≠0 by omega]) (by rw[e];exact ui (k:=k) (x:=x/y) (c:=λv=>c v w) h)
 case rem =>
  rcases h with⟨⟨h1,h2⟩,h⟩|⟨h2,h⟩
  rotate_left
  ·exact .of (v:=.int k (x.tmod y)) (w':=w) (by simp[binOp,Op.intDiv,show y≠0 by omega]) h
  have e:x.tmod y=x%y:=Int.tmod_eq_emod_of_nonneg h1;exact .of (v:=.int k (x.tmod y)) (w':=w) (by simp[binOp,Op.intDiv,show y≠0 by omega]) (by rw[e];exact h)
 case and=>exact .of (v:=.int k (cI .and k x y)) (w':=w) (by simp[binOp,Op.intBits,cI]) h
 case or=>exact .of (v:=.int k (cI .or k x y)) (w':=w) (by simp[binOp,Op.intBits,cI]) h
 case xor=>exact .of (v:=.int k (cI .xor k x y)) (w':=w) (by simp[binOp,Op.intBits,cI]) h
 case andNot=>exact .of (v:=.int k (cI .andNot k x y)) (w':=w) (by simp[binOp,Op.intBits,cI]) h
 case eql=>exact .of (v:=.bool (decide (x=y))) (w':=w) (by simp[binOp,Op.intCmp];by_cases e:x=y<;>simp[e]) h
 case neq=>exact .of (v:=.bool (decide (x≠y))) (w':=w) (by simp[binOp,Op.intCmp];by_cases e:x=y<;>simp[e]) h
 case lss=>exact .of (v:=.bool (decide (x<y))) (w':=w) (by simp[binOp,Op.intCmp]) h
 case leq=>exact .of (v:=.bool (decide (x<=y))) (w':=w) (by simp[binOp,Op.intCmp]) h
 case gtr=>exact .of (v:=.bool (decide (y<x))) (w':=w) (by simp[binOp,Op.intCmp]) h
 case geq=>exact .of (v:=.bool (decide (y<=x))) (w':=w) (by simp[binOp,Op.intCmp]) h
 case shl =>
  obtain⟨h1,h⟩:=h;exact .of (v:=.int k (k.wrap (x*2^(min y.toNat k.bits)))) (w':=w) (by simp[binOp,Op.shift,show ¬y<0 by omega]) (ui (k:=k) (c:=λv=>c v w) h)
 case shr =>
  obtain⟨h1,h⟩:=h;refine .of (v:=.int k (x.fdiv (2^(min y.toNat k.bits)))) (w':=w) (by simp[binOp,Op.shift,show ¬y<0 by omega]) ?_;rw[Int.fdiv_eq_ediv_of_nonneg _ (Int.pow_nonneg ai)];exact h
def bo(a:Option Addr)(l m size:Nat):Option Addr:=if m=l then a else a.map λp=>p.add (l*size)
theorem aky(l m size:Nat):bo none l m size=none:=by unfold bo;split<;>rfl
theorem zx{a:Option Addr}(h:Plain a){l m size:Nat}:Plain (bo a l m size):=by
 unfold bo;split
 ·exact h
 rw[h];simp[Plain,bW,bM,addr_add]
theorem zv{a:Option Addr}{l m size:Nat}:bW (bo a l m size)=bW a:=by
 unfold bo;split
 ·rfl
 cases a with
 | none=>rfl
 | some p=>simp only[gQ,bW,Addr.add];split<;>rfl
theorem zw{a:Option Addr}(h:Plain a){l m size:Nat}(hm:m≠l):bM (bo a l m size)=bM a+l*size:=by unfold bo;rw[ae hm,h];simp[bM,addr_add]
def mw(x:Option aj)(dflt:Nat)(most:Nat)(k:Nat->Prop):Prop :=
 match x with
 | none=>k dflt
 | some (.int _ i)=>(0<=i/\i<=(most:Int))/\k i.toNat
 | _=>False
theorem An{v:aj}{y d:Nat}{code:BoundsCode}{w:ad}(h:mw (some v) d y k):∃n,n<=y/\(Instr.sliceBound v y code).run P w=.ok n w/\k n:=by
 unfold mw at h;split at h
 ·rename_i hx;cases hx
 ·rename_i q i hx;cases hx;exact⟨i.toNat,aa,by simp[Instr.sliceBound,asIntOf,h.1],h.2⟩
 exact h.elim
def wT(C:Cx)(t:TypeId)(x:aj)(lo hi mx:Option aj)(w:ad)(k:aj->ad->Prop):Prop :=
 fk C.T t λd=>match d.under,x with
  | .string,.string ⟨⟨b⟩⟩=>(match mx with
   | none=>mw hi b.length b.length λh=>mw lo 0 h λl=>k (.string ⟨⟨(b.take h).drop l⟩⟩) w
   | some _=>False)
  | .slice e,.slice a len cap=>fk C.T e λde=>(match mx with
   | none=>mw hi len cap λh=>mw lo 0 h λl=>(l<=h)/\k (.slice (bo a l cap de.size) (h-l) (cap-l)) w
   | some mx=>mw (some mx) cap cap λm=>(match hi with
    | some hi=>mw (some hi) len m λh=>mw lo 0 h λl=>k (.slice (bo a l m de.size) (h-l) (m-l)) w
    | none=>False))
  | .array n e,.pointer (some ⟨b,o,none⟩)=>fk C.T e λde=>(match mx with
   | none=>mw hi n n λh=>mw lo 0 h λl=>k (.slice (bo (some ⟨b,o,none⟩) l n de.size) (h-l) (n-l)) w
   | some _=>False)
  | _,_=>False
theorem Pj{isS:Bool}{len cap:Nat}{lo hi:Option aj}{k:Nat->Nat->Prop}{w:ad}
  (h:mw hi len cap λh=>mw lo 0 h λl=>k l h):∃l h,(Instr.sliceBounds isS len cap lo hi none).run P w=.ok (l,h,cap) w/\k l h:=by
 cases hi with
 | none =>
  cases lo with
  | none=>exact⟨0,len,by simp[Instr.sliceBounds],h⟩
  | some v =>have h:mw (some v) 0 len λl=>k l len:=h;obtain⟨l,hle,hr,hk⟩:=An (P:=P) (w:=w) (code:=.sliceB) (d:=0) h;exact⟨l,len,by simp[Instr.sliceBounds,hr],hk⟩
 | some u =>
  obtain⟨m,hle,hr,h⟩:=An (P:=P) (w:=w) (code:=if isS then .sliceAcap else .sliceAlen) (d:=len) h;cases lo with
  | none=>exact⟨0,m,by simp[Instr.sliceBounds,hr],h⟩
  | some v =>obtain⟨l,hle,hr',hk⟩:=An (P:=P) (w:=w) (code:=.sliceB) (d:=0) h;exact⟨l,m,by simp[Instr.sliceBounds,hr,hr'],hk⟩
theorem aj8{C:Cx}(hT:cg C.P C.T){t:TypeId}{x:aj}{lo hi mx:Option aj}{w:ad}{k:aj->ad->Prop}(h:wT C t x lo hi mx w k) :
  bE C.P (Instr.sliceAt t x lo hi mx) w k:=by
 replace h:=im hT h;obtain⟨d,hd,h⟩:=h;split at h
 ·rename_i b hu;have cZ:=hd.string hu w;split at h
  ·obtain⟨l,h',hr,hk⟩:=Pj (P:=C.P) (isS:=false) (w:=w) (k:=λl h=>k (.string ⟨⟨(b.take h).drop l⟩⟩) w) h;refine .of (v:=.string ⟨⟨(b.take h').drop l⟩⟩) (w':=w) ?_ hk;have hsz:(jY ⟨b⟩).size=b.length:=rfl;have hex:(jY ⟨b⟩).extract l h'=⟨⟨(b.take h').drop l⟩⟩:=by have:=ByteArray.extract_mk b l h';rw[List.drop_take];exact this
   simp only[Instr.sliceAt,Instr.slice,eU,cZ,fb,hsz,hr,Option.isSome_none,Bool.false_eq_true,if_false,fP,hex]
  exact h.elim
 ·rename_i e a len cap hu;have cZ:=hd.slice hu w;replace h:=im hT h;obtain⟨de,hde,h⟩:=h;split at h
  ·obtain⟨l,h',hr,hle,hk⟩:=Pj (P:=C.P) (isS:=true) (w:=w) (k:=λl h=>l<=h/\k (.slice (bo a l cap de.size) (h-l) (cap-l)) w) h;refine .of ?_ hk;simp[Instr.sliceAt,Instr.slice,cZ,hr,hde.nI,bo]
  rename_i mx;obtain⟨m,_,kf,h⟩:=An (P:=C.P) (w:=w) (code:=.slice3Acap) h;split at h
  ·rename_i hi;obtain⟨h',_,hr1,h⟩:=An (P:=C.P) (w:=w) (code:=.slice3B) h;cases lo with
   | none =>refine .of (v:=.slice (bo a 0 m de.size) (h'-0) (m-0)) (w':=w) ?_ h;simp[Instr.sliceAt,Instr.slice,Instr.sliceBounds,cZ,kf,hr1,hde.nI,bo]
   | some v =>obtain⟨l,_,hr2,hk⟩:=An (P:=C.P) (w:=w) (code:=.slice3C) h;refine .of ?_ hk;simp[Instr.sliceAt,Instr.slice,Instr.sliceBounds,cZ,kf,hr1,hr2,hde.nI,bo]
  exact h.elim
 ·rename_i n e b o hu;have cZ:=hd.array hu w;replace h:=im hT h;obtain⟨de,hde,h⟩:=h;split at h
  ·obtain⟨l,h',hr,hk⟩:=Pj (P:=C.P) (isS:=false) (w:=w) (k:=λl h=>k (.slice (bo (some ⟨b,o,none⟩) l n de.size) (h-l) (n-l)) w) h;refine .of ?_ hk;simp only[Instr.sliceAt,Instr.sureAddr,eU,cZ,hr,hde.nI,fb,fP,bo];split<;>rfl
  exact h.elim
 exact h.elim
def xL(C:Cx)(fs:List (Nat×TypeId)):List (Nat×aj)->aC->(aC->Prop)->Prop
 | [],c,k=>k c
 | (i,v)::r,c,k=>match fs[i]? with
  | some f=>fk C.T f.2 λdf=>vx v λl=>(match Nat.beq l.length df.size with
   | true=>gS c f.1 l λc'=>xL C fs r c' k
   | false=>False)
  | none=>False
theorem Te(off:Nat):∀(l:aC) (k:Nat) (acc:Array aj),off+k+l.length<=acc.size ->
  ((l.zipIdx k).foldl (λcs p=>cs.setIfInBounds (off+p.2) p.1) acc).toList=acc.toList.take (off+k)++l++acc.toList.drop (off+k+l.length)
 | [],k,acc,_=>by simp
 | v::l,k,acc,h=>by
  simp only[aq]at h;rw[List.zipIdx_cons,List.foldl_cons,Te off l (k+1) _ (by simp;omega)];have hlt:off+k<acc.toList.length:=by simp;omega
  simp only[aiq,List.set_eq_take_append_cons_drop,hlt,if_true];generalize hA:acc.toList=A at hlt |-;have key:∀(p q:aC) (n m:Nat),p.length=n->(p++v::q).take (n+1)=p++[v]/\(p++v::q).drop (n+1+m)=q.drop m:=by rintro p q n m rfl;refine⟨by rw[List.take_append,bJ aa];simp,?_⟩;rw[List.drop_append,fc aa,show p.length+1+m-p.length=m+1 by omega];simp
  obtain⟨k1,k2⟩:=key (A.take (off+k)) (A.drop (off+k+1)) (off+k) l.length (by simp;omega);rw[show off+(k+1)=off+k+1 by omega,k1,k2,gK];simp only[bj,bb,aL,aq];rw[show off+k+1+l.length=off+k+(l.length+1)by omega]
theorem XP{places:Nat->Option (Nat×Nat)}{c:aC}{i off size:Nat}{v:aj}{r:List (Nat×aj)}(hp:places i=some (off,size))(hs:v.cells.size=size)(hle:off+v.cells.size<=c.length) :
  Instr.fill places ⟨c⟩ ((i,v)::r)=Instr.fill places ⟨c.take off++v.cells.toList++c.drop (off+v.cells.toList.length)⟩ r:=by
 have h1:¬(v.cells.size≠size):=by simp[hs]
 have h2:¬(off+v.cells.size>c.length):=aa;have key:=Te off v.cells.toList 0 ⟨c⟩ (by simpa using hle);simp only[ln]at key;have e:(v.cells.zipIdx.foldl (λcs (p:aj×Nat)=>cs.setIfInBounds (off+p.2) p.1) (⟨c⟩:Array aj))=⟨c.take off++v.cells.toList++c.drop (off+v.cells.toList.length)⟩:=by apply sr;rw[<-Array.foldl_toList,Array.toList_zipIdx];exact key
 simp only[Instr.fill,hp];rw[ae (by simp[hs];simpa [hs]using hle)];rw[<-e]
theorem SV{C:Cx}(hT:cg C.P C.T){fs:List (Nat×TypeId)}{places:Array (Nat×Nat)}
  (hpl:∀(i:Nat) (f:Nat×TypeId),fs[i]?=some f->∀df,ed C.P f.2 df->places[i]?=some (f.1,df.size)):∀ {ps:List (Nat×aj)} {c:aC} {k:aC->Prop},xL C fs ps c k ->
  ∃c',Instr.fill (places[·]?) ⟨c⟩ ps=some ⟨c'⟩/\k c'
 | [],c,k,h=>⟨c,rfl,h⟩
 | (i,v)::r,c,k,h=>by
  simp only[xL]at h;split at h
  ·rename_i f hf;replace h:=im hT h;obtain⟨df,hdf,h⟩:=h;replace h:=CT h;split at h
   ·rename_i hl;have hl:=qt hl;obtain⟨hle,h⟩:=JC h;obtain⟨c',h1,h2⟩:=SV hT hpl h;refine⟨c',?_,h2⟩;rw[XP (hpl i f hf df hdf) (by simpa using hl) (by simpa using hle)];exact h1
   exact h.elim
  exact h.elim
theorem run_places{C:Cx}{w:ad}:∀(fs:List Field),(∀f∈fs,∃df,ed C.P f.type df) ->
  ∃l:List (Nat×Nat),((fs.mapM λf=>do pure (f.offset,<-sizeOf f.type):Sem (List (Nat×Nat)))).run C.P w=.ok l w /\
   ∀(i:Nat) (f:Field),fs[i]?=some f->∀df,ed C.P f.type df->l[i]?=some (f.offset,df.size)
 | [],_=>⟨[],ah,ah⟩
 | f::fs,h=>by
  obtain⟨df,hdf⟩:=h f ah;obtain⟨l,hl,hi⟩:=run_places (w:=w) fs (λg hg=>h g (by simp[hg]));refine⟨(f.offset,df.size)::l,by rw[OT];simp only[eU,hdf.nI,fb,fP,hl],?_⟩;intro i g hg dg eO;cases i with
  | zero =>simp at hg;subst hg;have h1:=hdf.nI w;have h2:=eO.nI w;rw[h1]at h2;simp only[OU,and_true]at h2;simp[h2]
  | succ i=>simp at hg |-;exact hi i g hg dg eO
def Gt(C:Cx):List (Nat×TypeId)->Prop->Prop
 | [],k=>k
 | f::r,k=>fk C.T f.2 λ_=>Gt C r k
theorem QK{C:Cx}(hT:cg C.P C.T):∀ {fs:List (Nat×TypeId)} {k:Prop},Gt C fs k->(∀f∈fs,∃df,ed C.P f.2 df)/\k
 | [],_,h=>⟨ah,h⟩
 | f::r,k,h=>by obtain⟨d,hd,h⟩:=im hT h;obtain⟨h1,h2⟩:=QK hT h;exact⟨λg hg=>(bP.1 hg).elim (λe=>e▸⟨d,hd⟩) (λhg=>h1 g hg),h2⟩
def CQ(C:Cx)(t:TypeId)(ps:List (Nat×aj))(w:ad)(k:aj->ad->Prop):Prop :=
 fk C.T t λd=>Ga d λz=>(match d.under,z with
  | .struct fs,.agg ⟨c⟩=>Gt C fs (xL C fs ps c λc'=>k (.agg ⟨c'⟩) w)
  | .array _ _,_=>bE C.P (Instr.build t ps.toArray) w k
  | _,_=>False)
theorem aa7{C:Cx}(hT:cg C.P C.T){t:TypeId}{ps:List (Nat×aj)}{w:ad}{k:aj->ad->Prop}(h:CQ C t ps w k):bE C.P (Instr.build t ps.toArray) w k:=by
 replace h:=im hT h;obtain⟨d,hd,h⟩:=h;replace h:=ZS h;obtain⟨z,hz,h⟩:=h;split at h
 ·rename_i fs c hu;obtain⟨xO,cZ,rfl⟩:=hd.struct hu w;obtain⟨hall,h⟩:=QK hT h;obtain⟨l,hl,hi⟩:=run_places (C:=C) (w:=w) xO.toList (λf hf=>hall (f.offset,f.type) (List.mem_map.2 ⟨f,hf,rfl⟩));obtain⟨c',hc,hk⟩:=SV hT (places:=l.toArray) (λi f hf df hdf=>by
   rw[ib]at hf;cases hg:xO.toList[i]? with
   | none=>simp[hg]at hf
   | some g =>simp only[hg,gQ,mR]at hf;subst hf;simpa using hi i g hg df hdf) h
  refine .of (v:=.agg ⟨c'⟩) (w':=w) ?_ hk;simp only[Instr.build,eU,hd.JK hz,fb,cZ];rw[<-Xi (xs:=xO),ait];simp only[Sem.run_map,hl,fb,Value.cells,hc,fP]
 ·exact h
 exact h.elim
def GF(sz:Nat):Nat->List (Nat×aj)->(aC->Prop)->Prop
 | _,[],k=>k []
 | i,(j,v)::r,k=>match Nat.beq i j with
  | true=>vx v λl=>(match Nat.beq l.length sz with
   | true=>GF sz (i+1) r λm=>(match l with|[u]=>k (u::m)|l=>k (l++m))
   | false=>False)
  | false=>False
theorem Rc{sz n:Nat}:∀ {ps:List (Nat×aj)} {i:Nat} {c:aC} {k:aC->Prop},c.length=n*sz->ps.length+i=n->GF sz i ps k ->
  ∃l,l.length=ps.length*sz/\Instr.fill (λi=>some (i*sz,sz)) ⟨c⟩ ps=some ⟨c.take (i*sz)++l⟩/\k l
 | [],i,c,k,hc,hn,h=>⟨[],ah,by simp at hn;subst hn;simp[Instr.fill,<-hc],h⟩
 | (j,v)::r,i,c,k,hc,hn,h=>by
  simp only[GF]at h;split at h
  ·rename_i yi;have yi:=qt yi;subst yi;replace h:=CT h;split at h
   ·rename_i hl;have hl:v.cells.size=sz:=by simpa using qt hl
    simp only[aq]at hn;have hle:i*sz+v.cells.size<=c.length:=by rw[hc,hl,<-qB];exact Nat.mul_le_mul_right _ aa
    have vZ:v.cells.toList.length=sz:=by simpa using hl
    have hc':(c.take (i*sz)++v.cells.toList++c.drop (i*sz+v.cells.toList.length)).length=n*sz:=by simp only[ak,bg,aU,vZ];omega
    obtain⟨l,h1,h2,h3⟩:=Rc hc' aa h;refine⟨v.cells.toList++l,by simp[vZ,h1,qB,sq],?_,?_⟩
    ·rw[XP (off:=i*sz) (size:=sz) rfl hl hle,h2];have:(c.take (i*sz)++v.cells.toList++c.drop (i*sz+v.cells.toList.length)).take ((i+1)*sz)=c.take (i*sz)++v.cells.toList:=by rw[List.take_append_of_le_length (by simp[hl,qB];omega),bJ (by simp[hl,qB];omega)]
     rw[this,bj]
    revert h3;generalize v.cells.toList=q;intro h3;split at h3
    ·exact h3
    exact h3
   exact h.elim
  exact h.elim
def Rd(C:Cx)(t:TypeId)(n:Nat)(ps:List (Nat×aj))(w:ad)(k:aj->ad->Prop):Prop :=
 fk C.T t λd=>match d.under with
  | .slice e=>fk C.T e λde=>(match Nat.ble (n*de.size) 16777216,Nat.beq ps.length n,de.zero with
   | true,true,some z=>(match Nat.beq z.cells.size de.size with
    | true=>GF de.size 0 ps λl=>∀w' b,pP w b l e w'->k (.slice (some ⟨b,0,none⟩) n n) w'
    | false=>False)
   | _,false,_=>bE C.P (Instr.buildSlice t n ps.toArray) w k
   | _,_,_=>False)
  | _=>False
theorem aa6{C:Cx}(hT:cg C.P C.T){t:TypeId}{n:Nat}{ps:List (Nat×aj)}{w:ad}{k:aj->ad->Prop}(h:Rd C t n ps w k):bE C.P (Instr.buildSlice t n ps.toArray) w k:=by
 replace h:=im hT h;obtain⟨d,hd,h⟩:=h;split at h
 ·rename_i e hu;have cZ:=hd.slice hu w;replace h:=im hT h;obtain⟨de,hde,h⟩:=h;split at h
  ·rename_i z h1 h2 hz;split at h
   ·rename_i hzs;have h1:=aiu h1;have h2:=qt h2;have hn:¬(n*de.size>2^24):=aa;have base:∀q:Array aj,((Array.range (n*de.size)).map (q[·%q.size]!)).toList.length=n*de.size:=ah;obtain⟨Z,hZ⟩:∃Z:Array aj,((if n*de.size=0 then pure #[]else do pure (<-zeroValue e).cells:Sem (Array aj))).run C.P w=.ok Z w:=by
     by_cases uM:n*de.size=0
     ·exact⟨#[],by simp[uM]⟩
     exact⟨z.cells,by rw[ae uM];simp[hde.JK hz]⟩
    obtain⟨l,g1,g2,g3⟩:=Rc (n:=n) (c:=((Array.range (n*de.size)).map (Z[·%Z.size]!)).toList) (base _) aa h;simp only[Nat.zero_mul,List.take_zero,aL]at g2;have Th:Instr.fill (λi=>some (i*de.size,de.size)) ((Array.range (n*de.size)).map (Z[·%Z.size]!)) ps=some ⟨l⟩:=g2;refine .of (v:=.slice (some ⟨w.heap.size,0,none⟩) n n) (w':=w.alloc (.cells l.toArray e)) ?_ (g3 _ _ ⟨rfl,rfl⟩);unfold Instr.buildSlice;simp only[eU,cZ,fb,hde.nI,hn,if_false];by_cases uM:n*de.size=0
    ·rw[ag uM]at hZ |-;simp only[fP,OU,and_true]at hZ;subst hZ;simp only[eU,fP,fb,Th];simp[newRow]
    rw[ae uM]at hZ |-;simp only[eU,hde.JK hz,fP,fb,OU,and_true]at hZ |-;subst hZ;simp only[Th];simp[newRow]
   exact h.elim
  ·exact h
  exact h.elim
 exact h.elim
def Cells(w:ad)(a:Option Addr)(l:aC):Prop :=
 (l≠[]->Plain a)/\∀j v,l[j]?=some v->w.cell? ⟨bW a,bM a+j,none⟩=some v
theorem Cells.ext{w w':ad}{a:Option Addr}{l:aC}(h:Cells w a l)(he:Ext w w'):Cells w' a l :=
 ⟨h.1,λj v hj=>by have:=h.2 j v hj;rw[he.cell (World.block_lt_of_cell? _ _ this)];exact this⟩
abbrev bv(b:UInt8):aj:=.int .u8 (b.toNat:Int)
abbrev PK:=(p:Prop)->Decidable p->Prop
def zp(u:pU)(x y:aj)(k:PK):Prop :=
 match u,x,y with
 | .int _,.int ka a,.int kb b=>(match decide (ka=kb)with|true=>k (a=b) inferInstance|false=>False)
 | .string,.string ⟨⟨a⟩⟩,.string ⟨⟨b⟩⟩=>k (a=b) inferInstance
 | .bool,.bool a,.bool b=>k (a=b) inferInstance
 | _,_,_=>False
theorem ajO{d:TD}(hd:ed P t d){x y:aj}{k:PK}(h:zp d.under x y k)(w:ad)(m:Nat) :
  ∃(p:Prop) (i:Decidable p),(Op.equalIn (m+1) t x y).run P w=.ok (@decide p i) w/\rM d.under=false/\k p i:=by
 unfold zp at h;split at h
 ·rename_i k0 ka a kb b hu;have cZ:=hd.int hu w;split at h
  ·rename_i hk;have hk:=of_decide_eq_true hk;subst hk;refine⟨_,_,?_,by rw[hu];rfl,h⟩;simp only[Op.equalIn,eU,cZ,fb,if_true,fP];by_cases e:a=b<;>simp[e]
  exact h.elim
 ·rename_i a b hu;have cZ:=hd.string hu w;refine⟨_,_,?_,by rw[hu];rfl,h⟩;simp only[Op.equalIn,eU,cZ,fb,fP];rw[beq_toListBytes];have e1:(jY ⟨a⟩).toList=a:=Go.ByteArray.toList_mk a;have e2:(jY ⟨b⟩).toList=b:=Go.ByteArray.toList_mk b;rw[e1,e2];by_cases e:a=b<;>simp[e]
 ·rename_i a b hu;have cZ:=hd.bool hu w;refine⟨_,_,?_,by rw[hu];rfl,h⟩;simp only[Op.equalIn,eU,cZ,fb,fP];cases a<;>cases b<;>rfl
 exact h.elim
def xH(C:Cx):List (Nat×TypeId)->aC->aC->PK->Prop
 | [],_,_,k=>k True inferInstance
 | [f],xs,ys,k=>fk C.T f.2 λd=>pA xs f.1 λx=>pA ys f.1 λy=>zp d.under x y k
 | f::r,xs,ys,k=>fk C.T f.2 λd=>pA xs f.1 λx=>pA ys f.1 λy=>zp d.under x y λp i=>xH C r xs ys λq j=>k (p/\q) (@instDecidableAnd p q i j)
theorem JJ{d:TD}(hd:ed P t d)(ha:rM d.under=false){l:aC}{off:Nat}{v:aj}(hv:l[off]?=some v)(w:ad):(part t ⟨l⟩ off).run P w=.ok v w:=by
 have h1:(isAgg t).run P w=.ok false w:=by rw[hd.isAgg,ha]
 have hv':(⟨l⟩:Array aj)[off]?=some v:=by simpa using hv
 simp[part,h1,hv']
theorem SF{C:Cx}(hT:cg C.P C.T){xs ys:aC}{w:ad}{m:Nat}:∀ {fs:List Field} {k:PK},(∀f∈fs,f.name ≠ "_")->xH C (fs.map λf=>(f.offset,f.type)) xs ys k ->
  ∃(p:Prop) (i:Decidable p),(Op.eqFields (m+1) ⟨xs⟩ ⟨ys⟩ fs).run C.P w=.ok (@decide p i) w/\k p i
 | [],k,_,h=>⟨True,inferInstance,by simp[Op.eqFields],h⟩
 | f::r,k,hn,h=>by
  have key:∀k',(fk C.T f.type λd=>pA xs f.offset λx=>pA ys f.offset λy=>zp d.under x y k')->∃(p:Prop) (i:Decidable p),k' p i /\
    ∀R:Sem Bool,((do
     let a <-part f.type ⟨xs⟩ f.offset
     let b <-part f.type ⟨ys⟩ f.offset
     let r <-Op.equalIn (m+1) f.type a b
     if(!r)=true then pure false else R:Sem Bool)).run C.P w=if(!@decide p i)=true then .ok false w else R.run C.P w:=by
   intro k' h;obtain⟨d,hd,h⟩:=im hT h;obtain⟨x,hx,h⟩:=EM.1 h;obtain⟨y,hy,h⟩:=EM.1 h;obtain⟨p,i,hr,ha,hk⟩:=ajO hd h w m;refine⟨p,i,hk,λR=>?_⟩;simp only[eU,JJ hd ha hx,JJ hd ha hy,hr,fb,Sem.run_ite,fP]
  have hname:=hn f ah;cases r with
  | nil =>obtain⟨p,i,hk,hR⟩:=key k h;refine⟨p,i,?_,hk⟩;simp only[Op.eqFields,hname,ne_eq,not_false_eq_true,if_true];rw[hR];simp only[fP];cases @decide p i<;>rfl
  | cons g r =>obtain⟨p,i,hk,hR⟩:=key _ h;obtain⟨q,j,hrq,hkq⟩:=SF hT (fs:=g::r) (λf hf=>hn f (by simp[hf])) hk;refine⟨p/\q,@instDecidableAnd p q i j,?_,hkq⟩;rw[Op.eqFields,ag hname,hR,hrq];by_cases hp:p<;>by_cases hq:q<;>simp[hp,hq]
theorem SE{C:Cx}(hT:cg C.P C.T){t:TypeId}{d:TD}(hd:ed C.P t d)(he:d.eq=true){fs:List (Nat×TypeId)}(hu:d.under=.struct fs){xs ys:aC}{k:PK}(h:xH C fs xs ys k)(w:ad) :
  ∃(p:Prop) (i:Decidable p),k p i/\∀x y,((do eqGuard .eql t x y (.agg ⟨xs⟩) (.agg ⟨ys⟩);binOp .eql t (.agg ⟨xs⟩) (.agg ⟨ys⟩):Sem aj)).run C.P w=.ok (.bool (@decide p i)) w /\
   ((do eqGuard .neq t x y (.agg ⟨xs⟩) (.agg ⟨ys⟩);binOp .neq t (.agg ⟨xs⟩) (.agg ⟨ys⟩):Sem aj)).run C.P w=.ok (.bool (!@decide p i)) w:=by
 obtain⟨d0,h1,h2⟩:=hd.under;obtain⟨xO,rfl,hnm,rfl⟩:=Y9 (h2.trans hu);obtain⟨hg,hs⟩:=hd.eq he;have hf:C.P.fieldsOf t=xO:=by simp[Program.fieldsOf,h1]
 have hn:∀f∈xO.toList,f.name ≠ "_":=by
  intro f hf hc;have:(xO.any λf=>f.name == "_")=true:=by rw[Array.any_eq_true'];exact⟨f,by simpa using hf,by simp[hc]⟩
  rw[hnm]at this;cases this
 obtain⟨p,i,hr,hk⟩:=SF hT (m:=9998) (w:=w) hn h;have hst:=run_equalIn_struct (P:=C.P) w 9999 t ⟨xs⟩ ⟨ys⟩ (by rw[hf];exact h1) hs;rw[hf]at hst;refine⟨p,i,hk,λx y=>⟨?_,?_⟩⟩
 ·rw[eU,run_eqGuard_agg (P:=C.P) w .eql t x y _ _ hg];simp only[fb];rw[run_eql_struct,hst.trans hr];rfl
 rw[eU,run_eqGuard_agg (P:=C.P) w .neq t x y _ _ hg];simp only[fb];rw[run_neq_struct,hst.trans hr];rfl
def jb(u:Nat):ab:=if u<128 then[aD u]else aD (u%128+128)::jb (u/128)
decreasing_by omega
theorem yZ(h:u<128):jb u=[aD u]:=by rw[jb,ag h]
theorem EX(h:¬u<128):jb u=aD (u%128+128)::jb (u/128):=by rw[jb,ae h]
def zz(n:Int):Nat:=if 0<=n then 2*n.toNat else 2*(-(n+1)).toNat+1
def sM(u:Nat):Int:=if u%2=0 then(u/2:Nat)else -((u/2:Nat):Int)-1
theorem alU(n:Int):sM (zz n)=n:=by unfold sM zz;split<;>split<;>omega
theorem amz(u:Nat):zz (sM u)=u:=by unfold sM zz;split<;>split<;>omega
theorem Gc(h1 : -9223372036854775808<=n)(h2:n<=9223372036854775807):zz n<18446744073709551616:=by unfold zz;split<;>omega
theorem Zk(h:u<18446744073709551616) : -9223372036854775808<=sM u/\sM u<=9223372036854775807:=by unfold sM;split<;>omega
def az(n:Int):ab:=jb (zz n)
theorem qq(u:Nat):0<(jb u).length:=by rw[jb];split<;>simp
theorem ahN:∀(k u:Nat),u<128^(k+1)->(jb u).length<=k+1:=by
 intro k;induction k with
 | zero=>intro u h;rw[yZ aa];simp
 | succ k ih =>
  intro u h;by_cases hu:u<128
  ·rw[yZ hu];simp
  rw[EX hu];have:=ih (u/128) (by rw[Nat.pow_succ]at h;omega);simp only[aq];omega
theorem dq(h1 : -9223372036854775808<=n)(h2:n<=9223372036854775807):(az n).length<=10 :=
 ahN 9 _ (by have:=Gc h1 h2;simp only[Nat.reduceAdd,Nat.reducePow];omega)
inductive lE(α:Type) where
 | bad (c i:Int)
 | ok (x:α) (next:Nat)
inductive QA where
 | trunc
 | syn
 | ok (u k:Nat)
def jQ:Nat->ab->QA
 | _,[]=>.trunc
 | i,c::r=>if(i=9/\1<c.toNat)\/(0<i/\c.toNat=0)then .syn else if c.toNat<128 then .ok c.toNat 1 else
   match jQ (i+1) r with
   | .ok u k=>.ok (c.toNat%128+128*u) (k+1)
   | e=>e
theorem dB{n:Nat}(h:n<256):(aD n).toNat=n:=by simp[UInt8.toNat_ofNat'];omega
theorem Ot(h:i<9):2^(64-7*i)=128*2^(64-7*(i+1)):=by rw[show 64-7*i=(64-7*(i+1))+7 by omega,Nat.pow_add];omega
theorem ads(u:Nat):∀(i:Nat) (r:ab),i<=9->u<2^(64-7*i)->(0<i->0<u)->jQ i (jb u++r)=.ok u (jb u).length:=by
 induction u using Nat.strongRecOn with
 | ind u ih =>
  intro i r hi hu hp;by_cases h:u<128
  ·rw[yZ h];simp only[bb,aL,jQ,dB (show u<256 by omega),List.length_singleton];rw[ae,ag h];rintro(⟨rfl,h1⟩|⟨h1,h2⟩)
   ·simp at hu;omega
   have:=hp h1;omega
  rw[EX h];have yh:i≠9:=by rintro rfl;simp at hu;omega
  have hs:=Ot (i:=i) aa;have e:=ih (u/128) aa (i+1) r aa aa aa;simp only[bb,jQ,dB (show u%128+128<256 by omega),e,aq];rw[ae aa,ae aa];congr 1;omega
theorem Ox:∀(r:ab) (i u k:Nat),i<=9->jQ i r=.ok u k->k<=r.length/\r.take k=jb u/\u<2^(64-7*i)/\(0<i->0<u)
 | [],i,u,k,_,h=>by simp[jQ]at h
 | c::r,i,u,k,hi,h=>by
  have hc:=c.toNat_lt;simp only[jQ]at h;split at h
  ·cases h
  rename_i h1;split at h
  ·rename_i h2;cases h;refine⟨ah,?_,?_,λh0=>by omega⟩
   ·rw[yZ h2];simp
   by_cases yh:i=9
   ·subst yh;simp;omega
   have hs:=Ot (i:=i) aa;have:0<2^(64-7*(i+1)):=Nat.two_pow_pos _;omega
  rename_i h2;split at h
  ·rename_i u' k' h3;cases h;have yh:i≠9:=by rintro rfl;omega
   obtain⟨g1,g2,g3,g4⟩:=Ox r (i+1) u' k' aa h3;have hs:=Ot (i:=i) aa;have g5:=g4 aa;refine⟨by simp;omega,?_,aa,λ_=>by omega⟩;rw[EX aa,List.take_succ_cons,g2];congr 1
   ·apply UInt8.toNat_inj.1;rw[dB aa];omega
   congr 1;omega
  rename_i e _;cases e<;>simp_all
def fN(l:ab)(p:Nat):lE Int :=
 match jQ 0 (l.drop p)with
 | .trunc=>.bad 15 p
 | .syn=>.bad 1 p
 | .ok u k=>.ok (sM u) (p+k)
theorem mM(h1 : -9223372036854775808<=n)(h2:n<=9223372036854775807)(l r:ab):fN (l++(az n++r)) l.length=.ok n (l.length+(az n).length):=by unfold fN az;rw[kN,ads _ 0 r aa (by simpa using Gc h1 h2) aa];simp only[alU]
theorem rR{l:ab}{p q:Nat}(hp:p<=l.length)(h:fN l p=.ok n q):p<q/\q<=l.length/\(l.take q).drop p=az n /\ -9223372036854775808<=n/\n<=9223372036854775807:=by
 unfold fN at h;split at h
 ·cases h
 ·cases h
 rename_i u k hg;cases h;obtain⟨g1,g2,g3,_⟩:=Ox _ 0 _ _ aa hg;simp only[aU]at g1;have hl:=ax bU g2;have:=qq u;simp only[bg,aU]at hl;refine⟨aa,aa,?_,Zk (by simpa using g3)⟩;rw[az,amz,<-g2,List.take_drop,sq]
theorem ID{l:ab}{p q:Nat}(hp:p<=l.length)(h:fN l p=.ok n q):l.drop p=az n++l.drop q:=by obtain⟨h1,h2,h3,_⟩:=rR hp h;rw[<-h3];conv=>lhs;rw[<-eW q l,Fi (by simp;omega)]
theorem agL{l:ab}{p:Nat}{c i:Int}(h:fN l p=.bad c i):(c=15\/c=1)/\i=p:=by
 unfold fN at h;split at h<;>cases h
 ·exact⟨.inl rfl,rfl⟩
 exact⟨.inr rfl,rfl⟩
def eh(b:ab):ab:=az b.length++b
def GM(l:ab)(p:Nat):lE ab :=
 match fN l p with
 | .bad c i=>.bad c i
 | .ok n q=>if n<0 then .bad 4 p else if(l.length:Int)-q<n then .bad 15 p else .ok ((l.drop q).take n.toNat) (q+n.toNat)
theorem Rn{b:ab}(hb:b.length<=1099511627776)(l r:ab):GM (l++(eh b++r)) l.length=.ok b (l.length+(eh b).length):=by
 unfold GM eh;rw[bj,mM aa aa];simp only;rw[ae aa,ae (by simp;omega)];simp only[Int.toNat_natCast,ak];congr 1
 ·rw[<-bj,Fi ah,fc ah,aL,List.take_left]
 omega
theorem rW{b:ab}(h:b.length<=1099511627776):(eh b).length<=10+b.length:=by have:=dq (n:=b.length) aa aa;rw[eh,ak];omega
def ja{α:Type}(one:Nat->lE α):Nat->Nat->lE (List α)
 | 0,p=>.ok [] p
 | n+1,p=>match one p with
  | .bad c i=>.bad c i
  | .ok x q=>match ja one n q with
   | .bad c i=>.bad c i
   | .ok l r=>.ok (x::l) r
def iZ{α:Type}(l:ab)(one:Nat->lE α)(most:Int)(p:Nat):lE (List α) :=
 match fN l p with
 | .bad c i=>.bad c i
 | .ok n q=>if n<0\/most<n then .bad 4 p else ja one n.toNat q
theorem Iw{α:Type}{one:Nat->lE α}:∀(n p:Nat),ja one (n+1) p=match ja one n p with
  | .bad c i=>.bad c i
  | .ok l q=>match one q with
   | .bad c i=>.bad c i
   | .ok x r=>.ok (l++[x]) r
 | 0,p=>by simp only[ja];cases one p<;>rfl
 | n+1,p=>by
  rw[ja];cases h1:one p with
  | bad c i=>simp only[ja,h1]
  | ok x q =>
   simp only;rw[Iw n q];conv=>rhs;rw[ja,h1]
   cases h2:ja one n q with
   | bad c i=>simp only[h2]
   | ok l r =>simp only[h2];cases one r<;>rfl
def cm{α:Type}(f:α->ab)(l:List α):ab:=az l.length++l.flatMap f
theorem Bl{α:Type}{f:α->ab}{b:ab}{one:Nat->lE α}:∀(l:List α) (p:Nat),p<=b.length->(∀x∈l,∀q r,q<=b.length->b.drop q=f x++r->one q=.ok x (q+(f x).length))->∀r,b.drop p=l.flatMap f++r->ja one l.length p=.ok l (p+(l.flatMap f).length)
 | [],p,_,_,r,_=>by simp[ja]
 | x::l,p,hp,h,r,hb=>by simp only[bD,bj]at hb;simp only[aq,ja];rw[h x ah p _ hp hb];simp only;have hl:=ax bU hb;simp only[aU,ak]at hl;rw[Bl l (p+(f x).length) aa (λy hy=>h y (by simp[hy])) r (by rw[<-gK,hb,kN])];simp only[bD,ak];congr 1;omega
theorem NT{α:Type}{f:α->ab}{b:ab}{one:Nat->lE α}(h:∀p q x,p<=b.length->one p=.ok x q->p<=q/\q<=b.length/\b.drop p=f x++b.drop q):∀(n p q:Nat) (l:List α),p<=b.length->ja one n p=.ok l q->l.length=n/\p<=q/\q<=b.length/\b.drop p=l.flatMap f++b.drop q
 | 0,p,q,l,hp,he=>by simp only[ja]at he;cases he;simp[hp]
 | n+1,p,q,l,hp,he=>by
  simp only[ja]at he;split at he
  ·cases he
  rename_i x q1 h1;split at he
  ·cases he
  rename_i l' r h2;cases he;obtain⟨a1,a2,a3⟩:=h p q1 x hp h1;obtain⟨b1,b2,b3,b4⟩:=NT h n q1 _ _ a2 h2;refine⟨by simp[b1],aa,b3,?_⟩;rw[a3,b4];simp
theorem F9(h:x<18446744073709551616):IntKind.u64.wrap (x:Int)=x:=by rw[<-Qu];simp only[wr];omega
theorem tt{w:Nat}(h:x<2^w):(kL w (x:Int)).toNat=x:=by rw[BitVec.toNat_ofInt];have:((x:Int)%(2^w:Nat))=x:=Int.emod_eq_of_lt aa (by exact_mod_cast h);rw[this];simp
theorem ag2(h:x<256):cI .or .u8 (x:Int) 128=((x%128+128:Nat):Int):=by
 have key:∀x:Fin 256,cI .or .u8 (x.val:Int) 128=((x.val%128+128:Nat):Int):=by decide +kernel
 exact key ⟨x,h⟩
theorem aaG(h:x<256):cI .and .u8 (x:Int) 127=((x%128:Nat):Int):=by
 have key:∀x:Fin 256,cI .and .u8 (x.val:Int) 127=((x.val%128:Nat):Int):=by decide +kernel
 exact key ⟨x,h⟩
theorem KD(h:x<18446744073709551616):cI .and .u64 (x:Int) 1=((x%2:Nat):Int):=by show IntKind.u64.wrap ((kL 64 (x:Int)&&&kL 64 1).toNat:Int)=_;rw[BitVec.toNat_and,tt (by simpa using h),show(kL 64 1).toNat=1 from rfl,Nat.and_one_is_mod,F9 aa]
theorem wm(hu:u<2^j)(hx:x*2^j<18446744073709551616)(hu2:u<18446744073709551616):cI .or .u64 (u:Int) ((x*2^j:Nat):Int)=((u+x*2^j:Nat):Int):=by
 show IntKind.u64.wrap ((kL 64 (u:Int)|||kL 64 ((x*2^j:Nat):Int)).toNat:Int)=_;rw[BitVec.toNat_or,tt (by simpa using hu2),tt (by simpa using hx)];have e:u|||x*2^j=u+x*2^j:=by rw[Nat.or_comm,lP,<-aiw hu,sq]
 rw[e];refine F9 ?_;have h1:=Nat.or_lt_two_pow (x:=u) (y:=x*2^j) (n:=64) (by simpa using hu2) (by simpa using hx);rw[e]at h1;simpa using h1
theorem amy(h:cY n):cI .xor .u64 (((n%18446744073709551616)*2)%18446744073709551616) ((n/9223372036854775808)%18446744073709551616)=(zz n:Int):=by
 obtain⟨h1,h2⟩:=h;have hz:=Gc h1 h2;show IntKind.u64.wrap ((kL 64 _ ^^^ kL 64 _).toNat:Int)=_;by_cases hn:0<=n
 ·have e1:n/9223372036854775808%18446744073709551616=0:=aa;have e2:n%18446744073709551616*2%18446744073709551616=(zz n:Int):=by unfold zz;rw[ag hn];omega
  rw[e1,e2,BitVec.toNat_xor,tt (by simpa using hz),show(kL 64 0).toNat=0 from rfl,Nat.xor_zero,F9 hz]
 have e1:n/9223372036854775808%18446744073709551616=18446744073709551615:=aa;have e2:n%18446744073709551616*2%18446744073709551616=((18446744073709551615-zz n:Nat):Int):=by unfold zz;rw[ae hn];omega
 rw[e1,e2,show kL 64 18446744073709551615=BitVec.allOnes 64 from rfl,aiy,BitVec.toNat_not,tt (by simp only[Nat.reducePow];omega)];rw[show(2^64-1-(18446744073709551615-zz n))=zz n by simp only[Nat.reducePow];omega,F9 hz]
theorem alT(h:u<18446744073709551616):cI .xor .i64 ((u/2:Nat):Int) (0-((u%2:Nat):Int))=sM u:=by
 show IntKind.i64.wrap ((kL 64 _ ^^^ kL 64 _).toNat:Int)=_;unfold sM;rcases Nat.mod_two_eq_zero_or_one u with e|e
 ·rw[e,ag rfl];rw[show(0-((0:Nat):Int))=0 from rfl,BitVec.toNat_xor,tt (by simp only[Nat.reducePow];omega),show(kL 64 0).toNat=0 from rfl,Nat.xor_zero];exact wrap_i64 (by constructor<;>omega)
 rw[e,ae aa];rw[show(0-((1:Nat):Int)) = -1 from rfl,show kL 64 (-1)=BitVec.allOnes 64 from rfl,aiy,BitVec.toNat_not,tt (by simp only[Nat.reducePow];omega)];have key:∀x:Int,9223372036854775808<=x->x<18446744073709551616->IntKind.i64.wrap x=x-18446744073709551616:=by
  intro x h1 h2;have:∀m p:Int,m=18446744073709551616->p=9223372036854775808->(if(true&&decide (x%m>=p))=true then x%m-m else x%m)=x-18446744073709551616:=by rintro m p rfl rfl;simp only[Bool.true_and,ge_iff_le,eQ];split<;>omega
  exact this (2^64) (2^63) ai ai
 rw[key _ (by simp only[Nat.reducePow];omega) (by simp only[Nat.reducePow];omega)];simp only[Nat.reducePow];omega
theorem ZR(h:x<9223372036854775808):IntKind.i64.wrap (x:Int)=x:=wrap_i64 (by constructor<;>omega)
theorem ag8(hu:u<2^j)(hx:x*2^j+u<9223372036854775808):cI .or .i64 ((x*2^j:Nat):Int) (u:Int)=((x*2^j+u:Nat):Int):=by
 show IntKind.i64.wrap ((kL 64 ((x*2^j:Nat):Int)|||kL 64 (u:Int)).toNat:Int)=_;rw[BitVec.toNat_or,tt (by simp only[Nat.reducePow];omega),tt (by simp only[Nat.reducePow];omega)];have e:x*2^j|||u=x*2^j+u:=by rw[lP,<-aiw hu]
 rw[e];exact ZR hx
theorem yU{y:Nat}(hx:x<256)(hy:y<256):cI .or .i64 ((x:Int)*256) (y:Int)=((256*x+y:Nat):Int):=by have:=ag8 (u:=y) (x:=x) (j:=8) hy (by simp only[Nat.reducePow];omega);rw[show((x:Int)*256)=((x*2^8:Nat):Int)by simp only[Nat.reducePow];omega,this];simp only[Nat.reducePow];congr 1;omega
theorem aa2(k:IntKind)(a b:Int):cI .or k a b=cI .or k b a:=by show k.wrap _=k.wrap _;rw[BitVec.or_comm]
theorem IK{y:Nat}(hx:x<256)(hy:y<256):cI .or .i64 (y:Int) ((x:Int)*256)=((256*x+y:Nat):Int):=by rw[aa2,yU hx hy]
theorem sJ:(2:Int)^min (Int.toNat 8) IntKind.i64.bits=256:=ai
def AA(neg:Bool)(t:pU)(a b:aj)(c:aj->Prop):Prop :=
 match t,a,b with
 | .bool,.bool x,.bool y=>c (.bool (if neg then x != y else x == y))
 | .pointer _,.pointer none,.pointer y=>c (.bool (if neg then y.isSome else y.isNone))
 | .pointer _,.pointer (some _),.pointer none=>c (.bool neg)
 | .slice _,.slice none _ _,.slice y _ _=>c (.bool (if neg then y.isSome else y.isNone))
 | .slice _,.slice x _ _,.slice none _ _=>c (.bool (if neg then x.isSome else x.isNone))
 | .map _ _,.map x,.map none=>c (.bool (if neg then x.isSome else x.isNone))
 | .iface,.iface _ _,.nilIface=>c (.bool neg)
 | .func,.func _ _ _,.nilFunc=>c (.bool neg)
 | .func,.nilFunc,.nilFunc=>c (.bool (!neg))
 | _,_,_=>False
theorem sG{x:Operand}{a b:aj}{w:ad}{r:Bool}
  (hg:eqGuard (if neg then .neq else .eql) t x y a b=pure ())
  (hb:binOp (if neg then .neq else .eql) t a b=if neg then(do pure (.bool (!(<-Op.equal t a b))))else(do pure (.bool (<-Op.equal t a b))))
  (he:∀m,(Op.equalIn (m+1) t a b).run P w=.ok r w) :
  (do eqGuard (if neg then .neq else .eql) t x y a b;binOp (if neg then .neq else .eql) t a b:Sem aj).run P w=.ok (.bool (if neg then !r else r)) w:=by
 have he':(Op.equal t a b).run P w=.ok r w:=he 9999;rw[hg,hb];cases neg<;>simp[he']
theorem SH{d:TD}(hd:ed P t d){a b:aj}{w:ad}{c:aj->ad->Prop}{x y:Operand}(h:AA neg d.under a b λv=>c v w) :
  bE P (do eqGuard (if neg then .neq else .eql) t x y a b;binOp (if neg then .neq else .eql) t a b) w c:=by
 unfold AA at h;split at h
 ·rename_i p q hu;have cZ:=hd.bool hu w;have key:=sG (P:=P) (neg:=neg) (t:=t) (x:=x) (y:=y) (a:=.bool p) (b:=.bool q) (w:=w) (r:=p == q) (by cases neg<;>rfl) (by cases neg<;>rfl) (λm=>by simp only[Op.equalIn,eU,cZ,fb,fP]);refine .of key ?_;cases neg<;>exact h
 ·rename_i y' hu;have cZ:=hd.pointer hu w;have key:=sG (P:=P) (neg:=neg) (t:=t) (x:=x) (y:=y) (a:=.pointer none) (b:=.pointer y') (w:=w) (r:=y'.isNone) (by cases neg<;>rfl) (by cases neg<;>rfl) (λm=>by simp only[Op.equalIn,eU,cZ,fb,fP]);refine .of key ?_;cases neg<;>cases y'<;>exact h
 ·rename_i p hu;have cZ:=hd.pointer hu w;have key:=sG (P:=P) (neg:=neg) (t:=t) (x:=x) (y:=y) (a:=.pointer (some p)) (b:=.pointer none) (w:=w) (r:=false) (by cases neg<;>rfl) (by cases neg<;>rfl) (λm=>by simp only[Op.equalIn,eU,cZ,fb,fP]);refine .of key ?_;cases neg<;>exact h
 ·rename_i n1 n2 y' n3 n4 hu;have cZ:=hd.slice hu w;have key:=sG (P:=P) (neg:=neg) (t:=t) (x:=x) (y:=y) (a:=.slice none n1 n2) (b:=.slice y' n3 n4) (w:=w) (r:=y'.isNone) (by cases neg<;>rfl) (by cases neg<;>rfl) (λm=>by simp only[Op.equalIn,eU,cZ,fb,fP]);refine .of key ?_;cases neg<;>cases y'<;>exact h
 ·rename_i x' n1 n2 n3 n4 hne hu;have cZ:=hd.slice hu w;cases x' with
  | none=>exact(hne rfl).elim
  | some p =>have key:=sG (P:=P) (neg:=neg) (t:=t) (x:=x) (y:=y) (a:=.slice (some p) n1 n2) (b:=.slice none n3 n4) (w:=w) (r:=false) (by cases neg<;>rfl) (by cases neg<;>rfl) (λm=>by simp only[Op.equalIn,eU,cZ,fb,fP]);refine .of key ?_;cases neg<;>exact h
 ·rename_i x' hu;have cZ:=hd.map hu w;have key:=sG (P:=P) (neg:=neg) (t:=t) (x:=x) (y:=y) (a:=.map x') (b:=.map none) (w:=w) (r:=x'.isNone) (by cases neg<;>rfl) (by cases neg<;>rfl) (λm=>by cases x'<;>simp only[Op.equalIn,eU,cZ,fb,fP]<;>rfl);refine .of key ?_;cases neg<;>cases x'<;>exact h
 ·rename_i t1 v1 hu;obtain⟨ms,cZ⟩:=hd.iface hu w;have key:=sG (P:=P) (neg:=neg) (t:=t) (x:=x) (y:=y) (a:=.iface t1 v1) (b:=.nilIface) (w:=w) (r:=false) (by cases neg<;>rfl) (by cases neg<;>rfl) (λm=>by simp only[Op.equalIn,eU,cZ,fb,fP]);refine .of key ?_;cases neg<;>exact h
 ·rename_i f1 f2 f3 hu;obtain⟨q1,q2,q3,cZ⟩:=hd.func hu w;have key:=sG (P:=P) (neg:=neg) (t:=t) (x:=x) (y:=y) (a:=.func f1 f2 f3) (b:=.nilFunc) (w:=w) (r:=false) (by cases neg<;>rfl) (by cases neg<;>rfl) (λm=>by simp only[Op.equalIn,eU,cZ,fb,fP]);refine .of key ?_;cases neg<;>exact h
 ·rename_i hu;obtain⟨q1,q2,q3,cZ⟩:=hd.func hu w;have key:=sG (P:=P) (neg:=neg) (t:=t) (x:=x) (y:=y) (a:=.nilFunc) (b:=.nilFunc) (w:=w) (r:=true) (by cases neg<;>rfl) (by cases neg<;>rfl) (λm=>by simp only[Op.equalIn,eU,cZ,fb,fP]);refine .of key ?_;cases neg<;>exact h
 exact h.elim
abbrev str(l:ab):aj:=.string ⟨l.toArray⟩
def JS(op:BinOp)(x y:ab)(c:aj->Prop):Prop :=
 match op with
 | .add=>((x.length:Int)+y.length<=9223372036854775807)/\c (str (x++y))
 | .eql=>c (.bool (decide (x=y)))
 | .neq=>c (.bool (!decide (x=y)))
 | .lss=>c (.bool (Op.bytesLess x y))
 | .leq=>c (.bool (Op.bytesLess x y||decide (x=y)))
 | .gtr=>c (.bool (!(Op.bytesLess x y||decide (x=y))))
 | .geq=>c (.bool (!Op.bytesLess x y))
 | _=>False
theorem ByteArray.Yc(bs:ab):(jY bs.toArray).size=bs.length:=rfl
theorem akt{x y:ab}{w:ad}{c:aj->ad->Prop}(h:JS op x y λv=>c v w) :
  bE P (binOp op t (str x) (str y)) w c:=by
 have he:(x == y)=decide (x=y):=by by_cases e:x=y<;>simp[e]
 cases op
 case add =>
  obtain⟨h1,h⟩:=h;refine .of (v:=str (x++y)) (w':=w) ?_ h;have h2:¬((9223372036854775807:Int)<(x.length:Int)+y.length):=aa;have h3:¬(((jY x.toArray).size+(jY y.toArray).size:Nat):Int)>IntKind.i64.max:=by rw[ByteArray.Yc,ByteArray.Yc];have:IntKind.i64.max=9223372036854775807:=ai;rw[this];omega
  simp only[binOp,Op.stringOp];rw[ae h3,ByteArray.mk_append_mk];rfl
 case eql=>exact .of (v:=.bool (decide (x=y))) (w':=w) (by simp[binOp,Op.stringOp,he]) h
 case neq=>exact .of (v:=.bool (!decide (x=y))) (w':=w) (by simp[binOp,Op.stringOp,he]) h
 case lss=>exact .of (v:=.bool (Op.bytesLess x y)) (w':=w) (by simp[binOp,Op.stringOp]) h
 case leq=>exact .of (v:=.bool (Op.bytesLess x y||decide (x=y))) (w':=w) (by simp[binOp,Op.stringOp,he]) h
 case gtr=>exact .of (v:=.bool (!(Op.bytesLess x y||decide (x=y)))) (w':=w) (by simp[binOp,Op.stringOp,he]) h
 case geq=>exact .of (v:=.bool (!Op.bytesLess x y)) (w':=w) (by simp[binOp,Op.stringOp]) h
 all_goals exact h.elim
def CO(C:Cx)(op:BinOp)(t:TypeId)(a b:aj)(w:ad)(k:aj->ad->Prop):Prop :=
 match a,b with
 | .int ka x,.int kb y =>
  (match op with
   | .shl=>(0<=y/\y<=64)/\pZ ka (x*2^(min y.toNat ka.bits)) λv=>k v w
   | .shr=>(0<=y/\y<=64)/\k (.int ka (x/2^(min y.toNat ka.bits))) w
   | op=>(match ka,kb with
    | .i64,.i64=>rL op .i64 x y λv=>k v w
    | .u8,.u8=>rL op .u8 x y λv=>k v w
    | .i32,.i32=>rL op .i32 x y λv=>k v w
    | .u64,.u64=>rL op .u64 x y λv=>k v w
    | .u16,.u16=>rL op .u16 x y λv=>k v w
    | .u32,.u32=>rL op .u32 x y λv=>k v w
    | .i16,.i16=>rL op .i16 x y λv=>k v w
    | .i8,.i8=>rL op .i8 x y λv=>k v w
    | _,_=>False))
 | .string ⟨⟨x⟩⟩,.string ⟨⟨y⟩⟩=>JS op x y λv=>k v w
 | .agg ⟨a⟩,.agg ⟨b⟩=>fk C.T t λd=>(match d.eq,d.under,op with
  | true,.struct fs,.eql=>xH C fs a b λp i=>k (.bool (@decide p i)) w
  | true,.struct fs,.neq=>xH C fs a b λp i=>k (.bool (@decide (¬p) (@instDecidableNot p i))) w
  | _,.array _ _,op=>bE C.P (do eqGuard op t (.tmp 0) (.tmp 0) (.agg ⟨a⟩) (.agg ⟨b⟩);binOp op t (.agg ⟨a⟩) (.agg ⟨b⟩)) w k
  | _,_,_=>False)
 | a,b=>(match op with
  | .eql=>fk C.T t λd=>AA false d.under a b λv=>k v w
  | .neq=>fk C.T t λd=>AA true d.under a b λv=>k v w
  | _=>False)
theorem acM{x:Operand}{ka kb:IntKind}{a b:Int}{w:ad}:(eqGuard op t x y (.int ka a) (.int kb b)).run P w=.ok () w:=by unfold eqGuard;cases op<;>simp
theorem acN{x:Operand}{a b:ByteArray}{w:ad}:(eqGuard op t x y (.string a) (.string b)).run P w=.ok () w:=by unfold eqGuard;cases op<;>simp
theorem bE.guard{g:Sem Unit}{s:Sem aj}{w:ad}{k:aj->ad->Prop}(hg:g.run P w=.ok () w)(h:bE P s w k):bE P (do g;s) w k:=by obtain⟨v,w',hr,hk⟩:=h.ex;exact⟨v,w',by simp[hg,hr],hk⟩
theorem aaY{C:Cx}(hT:cg C.P C.T){op:BinOp}{t:TypeId}{x y:Operand}{a b:aj}{w:ad}{k:aj->ad->Prop}(h:CO C op t a b w k) :
  bE C.P (do eqGuard op t x y a b;binOp op t a b) w k:=by
 unfold CO at h;split at h
 ·refine .guard acM ?_;rename_i ka x kb y;split at h
  ·obtain⟨h1,h⟩:=h;exact .of (v:=.int ka (ka.wrap (x*2^(min y.toNat ka.bits)))) (w':=w) (by simp[binOp,Op.shift,show ¬y<0 by omega]) (ui (k:=ka) (c:=λv=>k v w) h)
  ·obtain⟨h1,h⟩:=h;refine .of (v:=.int ka (x.fdiv (2^(min y.toNat ka.bits)))) (w':=w) (by simp[binOp,Op.shift,show ¬y<0 by omega]) ?_;rw[Int.fdiv_eq_ediv_of_nonneg _ (Int.pow_nonneg ai)];exact h
  split at h<;>first|exact afa h|exact h.elim
 ·exact .guard acN (akt h)
 ·replace h:=im hT h;obtain⟨d,hd,h⟩:=h;split at h
  ·rename_i fs he hu;obtain⟨p,i,hk,hr⟩:=SE hT hd he hu h w;exact .of (hr x y).1 hk
  ·rename_i fs he hu;obtain⟨p,i,hk,hr⟩:=SE hT hd he hu h w;refine .of (hr x y).2 ?_;have e:(!@decide p i)=@decide (¬p) (@instDecidableNot p i):=by by_cases hp:p<;>simp[hp]
   rw[e];exact hk
  ·exact h
  exact h.elim
 split at h
 ·replace h:=im hT h;obtain⟨d,hd,h⟩:=h;exact SH (neg:=false) hd h
 ·replace h:=im hT h;obtain⟨d,hd,h⟩:=h;exact SH (neg:=true) hd h
 exact h.elim
def Cq(op:UnOp)(x:aj)(c:aj->Prop):Prop :=
 match op,x with
 | .not,.bool b=>c (.bool (!b))
 | .neg,.int .i64 n=>(cY (0-n)/\c (.int .i64 (0-n)))\/c (.int .i64 (IntKind.i64.wrap (0-n)))
 | .neg,.int kd n=>pZ kd (0-n) c
 | .xor,.int kd n=>c (.int kd (cI .xor kd (if kd.signed then -1 else kd.max) n))
 | _,_=>False
theorem alE{op:UnOp}{x:aj}{w:ad}{k:aj->ad->Prop}(h:Cq op x λv=>k v w):bE P (Op.unary op x) w k:=by
 unfold Cq at h;split at h
 ·rename_i b;exact .of (v:=.bool (!b)) (w':=w) (by simp[Op.unary]) h
 ·rename_i n;exact .of (v:=.int .i64 (IntKind.i64.wrap (0-n))) (w':=w) (by simp[Op.unary,Op.intArith]) (by
   rcases h with h|h
   ·rw[wrap_i64 h.1];exact h.2
   exact h)
 ·rename_i kd n _;exact .of (v:=.int kd (kd.wrap (0-n))) (w':=w) (by simp[Op.unary,Op.intArith]) (ui (k:=kd) (c:=λv=>k v w) h)
 ·rename_i kd n;exact .of (v:=.int kd (cI .xor kd (if kd.signed then -1 else kd.max) n)) (w':=w) (by simp[Op.unary,Op.intBits,cI]) h
 exact h.elim
def Eo(u:pU):Bool:=match u with|.int .u8=>true|_=>false
def GU(C:Cx)(s d:TypeId)(x:aj)(w:ad)(k:aj->ad->Prop):Prop :=
 fk C.T s λds=>fk C.T d λdd =>
  match ds.under,dd.under,x with
  | .int .u64,.int .i64,.int _ n=>(cY n/\k (.int .i64 n) w)\/k (.int .i64 (IntKind.i64.wrap n)) w
  | .int _,.int kd,.int _ n=>pZ kd n λv=>k v w
  | .string,.string,.string b=>k (.string b) w
  | .slice e,.string,.slice a len cap=>fk C.T e λde=>(match Eo de.under with
   | true=>∃l:ab,len=l.length/\Cells w a (l.map bv)/\k (str l) w
   | false=>bE C.P (convert s d (.slice a len cap)) w k)
  | .string,.slice _,x=>bE C.P (convert s d x) w k
  | .slice _,.slice _,x=>bE C.P (convert s d x) w k
  | .int _,.string,x=>bE C.P (convert s d x) w k
  | _,_,_=>False
theorem abW{C:Cx}(hT:cg C.P C.T){s d:TypeId}{x:aj}{w:ad}{k:aj->ad->Prop}(h:GU C s d x w k):bE C.P (convert s d x) w k:=by
 replace h:=im hT h;obtain⟨ds,hds,h⟩:=h;replace h:=im hT h;obtain⟨dd,nr,h⟩:=h;split at h
 ·rename_i q n jn hu;have h1:=hds.int jn w;have h2:=nr.int hu w;exact .of (v:=.int .i64 (IntKind.i64.wrap n)) (w':=w) (by simp[convert,h1,h2,Conv.intToInt]) (by
   rcases h with h|h
   ·rw[wrap_i64 h.1];exact h.2
   exact h)
 ·rename_i ks kd q n _ jn hu;have h1:=hds.int jn w;have h2:=nr.int hu w;exact .of (v:=.int kd (kd.wrap n)) (w':=w) (by simp[convert,h1,h2,Conv.intToInt]) (ui (k:=kd) (c:=λv=>k v w) h)
 ·rename_i b jn hu;have h1:=hds.string jn w;have h2:=nr.string hu w;exact .of (v:=.string b) (w':=w) (by simp[convert,h1,h2]) h
 ·rename_i e a len cap jn hu;replace h:=im hT h;obtain⟨de,hde,h⟩:=h;split at h
  ·rename_i h8;obtain⟨l,rfl,hc,hk⟩:=h;have he:de.under=.int .u8:=by
    revert h8;cases de.under with
    | int q=>cases q<;>simp[Eo]
    | _=>simp[Eo]
   have g1:C.P.underlying s=some (.slice e):=by obtain⟨d0,q1,q2⟩:=hds.under;rw[jn]at q2;cases d0<;>first|(simp_all[eS];done)|(simp only[eS]at q2;split at q2<;>cases q2)
   have g2:C.P.underlying e=some (.int .u8):=by obtain⟨d0,q1,q2⟩:=hde.under;rw[he]at q2;cases d0<;>first|(simp_all[eS];done)|(simp only[eS]at q2;split at q2<;>cases q2)
   have g3:C.P.underlying d=some .string:=by obtain⟨d0,q1,q2⟩:=nr.under;rw[hu]at q2;cases d0<;>first|(simp_all[eS];done)|(simp only[eS]at q2;split at q2<;>cases q2)
   refine .of (v:=str l) (w':=w) ?_ hk;by_cases hl:l=[]
   ·subst hl;cases a with
    | none=>exact(run_convert_bytes_string w s d e none 0 cap g1 g2 g3).trans (by simp[Conv.bytesToString];rfl)
    | some p=>exact run_convert_bytes_back w s d e p cap [] g1 g2 g3 ah
   have hp:=hc.1 (by simpa using hl);have:=run_convert_bytes_back w s d e ⟨bW a,bM a,none⟩ cap l g1 g2 g3 (λj hj=>by rw[addr_add];exact hc.2 j _ (by simp[hj]));rw[hp];exact this
  exact h
 ·exact h
 ·exact h
 ·exact h
 exact h.elim
def BD(env:Env):List (Nat×Operand)->(List (Nat×aj)->Prop)->Prop
 | [],k=>k []
 | (i,x)::r,k=>dj env x λv=>BD env r λl=>k ((i,v)::l)
theorem Om{env:Env}{a:Act}(hs:Sat env a.tmps):∀ {xs:List (Nat×Operand)} {k:List (Nat×aj)->Prop},BD env xs k->k (xs.map λp=>(p.1,a.eval p.2))
 | [],_,h=>h
 | (i,x)::xs,k,h=>by have h1:=dZ h hs;exact Om hs (xs:=xs) h1
def Ip(C:Cx)(t:TypeId)(x:aj)(k:aj->Prop):Prop :=
 fk C.T t λd=>match d.under,x with
  | .string,.string s=>k (.int .i64 (s.size:Int))
  | .slice _,.slice _ n _=>k (.int .i64 (n:Int))
  | .array n _,_=>k (.int .i64 (n:Int))
  | _,_=>False
theorem afy{C:Cx}(hT:cg C.P C.T){t:TypeId}{ts:Array TypeId}{ty:TypeId}{x:aj}{xs:Array aj}{w:ad}{k:aj->ad->Prop}
  (ht:ts[0]?=some t) (hx:xs[0]?=some x) (h:Ip C t x λv=>k v w):bE C.P (Builtin.len_ ts ty xs) w k:=by
 replace h:=im hT h;obtain⟨d,hd,h⟩:=h;split at h
 ·rename_i hu;have h1:=hd.string hu w;exact .of (w':=w) (by simp[Builtin.len_,ht,hx,h1,goInt]) h
 ·rename_i hu;have h1:=hd.slice hu w;exact .of (w':=w) (by simp[Builtin.len_,ht,hx,h1,goInt]) h
 ·rename_i hu;have h1:=hd.array hu w;exact .of (w':=w) (by simp[Builtin.len_,ht,hx,h1,goInt]) h
 exact h.elim
def Rg(C:Cx)(fv:aj)(vs:aC)(w:ad)(k:aj->ad->Prop)(Z:List PanicEntry->ad->Prop):Prop :=
 match fv with
 | .func (.func g) ⟨first⟩ ⟨captured⟩=>cR C.P g (first++vs++captured).toArray w k Z
 | .func (.yield l) ⟨[]⟩ ⟨[]⟩=>CI C.P l vs.toArray w λb w'=>k (.bool b) w'
 | _=>False
def KK(C:Cx)(b:Builtin)(ts:Array TypeId)(ty:TypeId)(vs:aC)(w:ad)(k:aj->ad->Prop):Prop :=
 match b,ts,vs with
 | .len,⟨[t]⟩,[x]=>Ip C t x λv=>k v w
 | .append,ts,vs=>bE C.P (Builtin.append_ ts ty vs.toArray) w k
 | .copy,ts,vs=>bE C.P (Builtin.copy_ ts ty vs.toArray) w k
 | .min,ts,vs=>bE C.P (Builtin.min_ ts ty vs.toArray) w k
 | .max,ts,vs=>bE C.P (Builtin.max_ ts ty vs.toArray) w k
 | .cap,ts,vs=>bE C.P (Builtin.cap_ ts ty vs.toArray) w k
 | .delete,ts,vs=>bE C.P (Builtin.delete_ ts ty vs.toArray) w k
 | .clear,ts,vs=>bE C.P (Builtin.clear_ ts ty vs.toArray) w k
 | _,_,_=>False
def xp(C:Cx)(op:BinOp)(t:TypeId)(y:Operand)(a b:aj)(w:ad)(k:aj->ad->Prop):Prop :=
 match y,a,b with
 | .const _,.nilIface,.nilIface=>fk C.T t λd=>(match d.under,op with
  | .iface,.eql=>k (.bool true) w
  | .iface,.neq=>k (.bool false) w
  | _,_=>False)
 | _,a,b=>CO C op t a b w k
theorem aa0{C:Cx}(hT:cg C.P C.T){op:BinOp}{t:TypeId}{x y:Operand}{a b:aj}{w:ad}{k:aj->ad->Prop}(h:xp C op t y a b w k):bE C.P (do eqGuard op t x y a b;binOp op t a b) w k:=by
 unfold xp at h;split at h
 ·rename_i c;replace h:=im hT h;obtain⟨d,hd,h⟩:=h;split at h
  ·rename_i hu;obtain⟨ms,cZ⟩:=hd.iface hu w;have key:=sG (P:=C.P) (neg:=false) (t:=t) (x:=x) (y:=.const c) (a:=.nilIface) (b:=.nilIface) (w:=w) (r:=true) (by simp[eqGuard]) bX (λm=>by simp only[Op.equalIn,eU,cZ,fb,fP]);exact .of key h
  ·rename_i hu;obtain⟨ms,cZ⟩:=hd.iface hu w;have key:=sG (P:=C.P) (neg:=true) (t:=t) (x:=x) (y:=.const c) (a:=.nilIface) (b:=.nilIface) (w:=w) (r:=true) (by simp[eqGuard]) bX (λm=>by simp only[Op.equalIn,eU,cZ,fb,fP]);exact .of key h
  exact h.elim
 exact aaY hT h
def Gk(P:Program)(t:TypeId)(u:aj)(m:String)(f:FuncId)(x:aj):Prop:=∀w:ad,(method (P.types.size+Made.depth) t u m).run P w=.ok (f,x) w
def nQ(C:Cx)(op:Op)(ty:TypeId)(env:Env)(w:ad)(k:aj->ad->Prop)(Z:List PanicEntry->ad->Prop):Prop :=
 match op with
 | .move x=>dj env x λv=>k v w
 | .assign x=>dj env x λv=>k v w
 | .pick c a b=>dj env c λv=>(match v with
  | .bool t=>mA 0 t λt'=>(match t' with|true=>dj env a λu=>k u w|false=>dj env b λu=>k u w)
  | _=>False)
 | .alloc t=>QM C t w k
 | .box t x=>dj env x λv=>Ra t v w k
 | .load t x=>dj env x λv=>we C t v w k
 | .store t x y=>dj env x λa=>dj env y λv=>PD C t a v w λw'=>k undef w'
 | .nilCheck x=>dj env x λv=>(match v with
  | .pointer (some a)=>k (.pointer (some a)) w
  | .func (.func f) a b=>k (.func (.func f) a b) w
  | .func (.yield f) a b=>k (.func (.yield f) a b) w
  | .map r=>k (.map r) w
  | .iface t u=>k (.iface t u) w
  | _=>False)
 | .binOp op t x y _=>dj env x λa=>dj env y λb=>xp C op t y a b w k
 | .unOp op _ x=>dj env x λa=>Cq op a λv=>k v w
 | .convert s d x=>dj env x λa=>GU C s d a w k
 | .fieldAddr t x f=>dj env x λa=>AD C t a f w k
 | .field t x f=>dj env x λa=>AF C t a f w k
 | .indexAddr t x i=>dj env x λa=>dj env i λj=>yN C t a j w k
 | .index t x i=>dj env x λa=>dj env i λj=>yO C t a j w k
 | .extract x i=>dj env x λa=>Df a i w k
 | .build t parts=>BD env parts.toList λps=>CQ C t ps w k
 | .buildSlice t n parts=>BD env parts.toList λps=>Rd C t n ps w k
 | .makeFunc (.func f) first captured=>j2 env first.toList λa=>j2 env captured.toList λb=>k (.func (.func f) a.toArray b.toArray) w
 | .makeInterface t x=>dj env x λa=>bE C.P (Instr.makeInterface t a) w k
 | .makeMap t none=>bE C.P (Instr.makeMap t none) w k
 | .makeSlice t x y=>dj env x λa=>dj env y λb=>bE C.P (Instr.makeSlice t a b) w k
 | .slice t x lo hi mx=>dj env x λa=>j2 env lo.toList λl=>j2 env hi.toList λh=>j2 env mx.toList λm=>wT C t a l.head? h.head? m.head? w k
 | .lookup t x i ok=>dj env x λa=>dj env i λj=>bE C.P (Instr.lookup t a j ok) w k
 | .range t x=>dj env x λa=>bE C.P (Instr.range t a) w k
 | .next x s=>dj env x λa=>bE C.P (Instr.next a s ty) w k
 | .entry x=>dj env x λa=>bE C.P (Instr.entry a) w k
 | .sliceToArrayPointer t x=>dj env x λa=>bE C.P (Instr.arrayAt t a) w k
 | .typeAssert x t t' ok=>dj env x λa=>bE C.P (Instr.typeAssert a t t' ok) w k
 | .mapUpdate t m i x=>dj env m λa=>dj env i λj=>dj env x λv=>bE C.P (do Instr.mapUpdate t a j v;pure undef) w k
 | .insert t m i x=>dj env m λa=>dj env i λj=>dj env x λv=>bE C.P (do Instr.mapUpdate t a j v;pure undef) w k
 | .call ⟨.value f,args,_⟩=>dj env f λfv=>j2 env args.toList λvs=>Rg C fv vs w k Z
 | .call ⟨.builtin b,args,ts⟩=>j2 env args.toList λvs=>KK C b ts ty vs w k
 | .panic x=>dj env x λv=>(match v with
  | .iface t u=>Z [{ v:=.iface t u,recovered:=false }] w
  | _=>False)
 | .call ⟨.invoke r m,args,_⟩=>dj env r λrv=>j2 env args.toList λvs=>(match rv with
  | .iface t u=>∃f x,Gk C.P t u m f x/\cR C.P f (x::vs).toArray w k Z
  | _=>False)
 | _=>False
def kE(T:List TD)(t:TypeId):pU:=match T[t]? with|some d=>d.under|none=>.other
def mh(T:List TD):Op->Bool
 | .move _|.assign _|.pick _ _ _|.load _ _|.nilCheck _|.unOp _ _ _|.fieldAddr _ _ _|.field _ _ _|.indexAddr _ _ _|.index _ _ _|.extract _ _|.slice _ _ _ _ _=>true
 | .makeFunc (.func _) _ _=>true
 | .binOp _ t _ _ _=>(match kE T t with|.array _ _=>false|_=>true)
 | .build t _=>(match kE T t with|.struct _=>true|_=>false)
 | .convert s d _=>(match kE T s,kE T d with
  | .int _,.int _=>true
  | .string,.string=>true
  | .slice e,.string=>Eo (kE T e)
  | _,_=>false)
 | .call ⟨.builtin .len,⟨[_]⟩,⟨[_]⟩⟩=>true
 | _=>false
def zm:Op->Bool
 | .load _ _=>true
 | .convert _ _ _=>true
 | _=>false
theorem alW{C:Cx}{w:ad}{next:Act->ad->Prop}{Q:Exit->Act->ad->Prop}{s:Sem aj}
  (hs:Oper.semAt C.r a.eval o=(do pure (.value (<-s)))) (h:bE C.P s w λv w'=>next (a.put o.dst v) w'):o.wpIn (Fr C.r) 0 C.P a w next Q:=by
 obtain⟨v,w',hr,hk⟩:=h.ex;refine⟨λ_ _=>trivial,?_⟩;have e:(Fr C.r).round=C.r:=rfl;rw[e,hs];simp only[eU,hr,fb,fP];exact hk
theorem alV{C:Cx}{w:ad}{next:Act->ad->Prop}{Q:Exit->Act->ad->Prop}
  (hs:Oper.semAt C.r a.eval o=(do s;pure .skip)) (h:∃w',s.run C.P w=.ok () w'/\next (a.put o.dst undef) w'):o.wpIn (Fr C.r) 0 C.P a w next Q:=by
 obtain⟨w',hr,hk⟩:=h;refine⟨λ_ _=>trivial,?_⟩;have e:(Fr C.r).round=C.r:=rfl;rw[e,hs];simp only[eU,hr,fb,fP];exact hk
theorem upon_enter{C:Cx}{w:ad}{next:Act->ad->Prop}{Q:Exit->Act->ad->Prop}{f:FuncId}{args:Array aj}
  (hs:(Oper.semAt C.r a.eval o).run C.P w=(callFunc f args).run C.P w) (h:cR C.P f args w (λv w'=>next (a.put o.dst v) w') (λch w'=>Q (.panic ch) a w')):o.wpIn (Fr C.r) 0 C.P a w next Q:=by
 refine⟨λ_ _=>trivial,?_⟩;have e:(Fr C.r).round=C.r:=rfl;rw[e,hs];rcases h.out with⟨he,h⟩|⟨v,w',hr,hk⟩
 ·rw[he args w];refine⟨λh=>by simp[Fr,Fence.wide]at h,CS.2 (Calls.nD h ?_)⟩;intro e w' r;cases e with
  | returned v=>exact r
  | panicked c=>exact r
  | outgrown=>exact r.elim
 rw[hr];exact hk
theorem XR{w:ad}{k:aj->ad->Prop}(h:bE P (do s;pure undef) w k):∃w',s.run P w=.ok () w'/\k undef w':=by
 obtain⟨v,w',hr,hk⟩:=h.ex;simp only[eU]at hr;cases hs:s.run P w with
 | ok u w1 =>simp only[hs,fb,fP,OU]at hr;obtain⟨rfl,rfl⟩:=hr;exact⟨w1,rfl,hk⟩
 | halt h w1=>simp[hs]at hr
theorem fj{C:Cx}{op:Op}(ho:o.op=op)(h:∀c,op≠.defer c):Oper.semAt C.r a.eval o=execOp a.eval o :=
 Oper.semAt_eq _ _ _ (λc hc=>h c (ho▸hc))
theorem adY(x:Option Operand):(x.toList.map a.eval).head?=x.map a.eval:=by cases x<;>rfl
theorem Qo{C:Cx}(hT:cg C.P C.T){o:Oper}{env:Env}{a:Act}(hs:Sat env a.tmps){w:ad}{k:aj->ad->Prop}{Z:List PanicEntry->ad->Prop}
  (h:nQ C o.op o.type env w k Z) :
  (∃s:Sem aj,Oper.semAt C.r a.eval o=(do pure (.value (<-s)))/\bE C.P s w k) \/
  (mh C.T o.op=false/\∃s:Sem Unit,Oper.semAt C.r a.eval o=(do s;pure .skip)/\∃w',s.run C.P w=.ok () w'/\k undef w') \/
  (mh C.T o.op=false/\∃f args,(Oper.semAt C.r a.eval o).run C.P w=(callFunc f args).run C.P w/\cR C.P f args w k Z) \/
  (mh C.T o.op=false/\∃l fn tmps assign body,(Oper.semAt C.r a.eval o).run C.P w=.ok (.round l fn tmps assign body) w/\RoundIn (Fr none) 0 C.P l fn tmps assign body w λe w'=>∃v,e=.returned v/\k v w') \/
  (mh C.T o.op=false/\∃t u,(Oper.semAt C.r a.eval o).run C.P w=.halt (.panic (.iface t u)) w/\Z [{ v:=.iface t u,recovered:=false }] w):=by
 generalize ho:o.op=op at h;unfold nQ at h;split at h
 case h_1 x =>
  exact .inl ⟨pure (a.eval x),(by rw[fj ho ah];simp[execOp,ho]),.of ah (dZ h hs)⟩
 case h_2 x =>
  exact .inl ⟨pure (a.eval x),(by rw[fj ho ah];simp[execOp,ho]),.of ah (dZ h hs)⟩
 case h_3 c x y =>
  replace h:=dZ h hs;split at h
  ·rename_i t ht;replace h:=KY.1 h;cases t with
   | true =>exact .inl ⟨pure (a.eval x),(by rw[fj ho ah];simp[execOp,ho,ht,asBool]),.of ah (dZ h hs)⟩
   | false =>exact .inl ⟨pure (a.eval y),(by rw[fj ho ah];simp[execOp,ho,ht,asBool]),.of ah (dZ h hs)⟩
  exact h.elim
 case h_4 t =>
  exact .inl ⟨Instr.alloc t true (.tuple #[]),(by rw[fj ho ah];simp[execOp,ho]),aaF hT h⟩
 case h_5 t x =>
  exact .inl ⟨Instr.box t (a.eval x),(by rw[fj ho ah];simp[execOp,ho]),aa5 (dZ h hs)⟩
 case h_6 t x =>
  exact .inl ⟨Instr.loadAt t (a.eval x),(by rw[fj ho ah];simp[execOp,ho]),afF hT (dZ h hs)⟩
 case h_7 t x y =>
  replace h:=dZ (dZ h hs) hs;obtain⟨w',hr,hk⟩:=aks hT h;exact .inr (.inl ⟨rfl,Instr.storeAt t (a.eval x) (a.eval y),(by rw[fj ho ah];simp[execOp,ho]),w',hr,hk⟩)
 case h_8 x =>
  replace h:=dZ h hs;split at h
  all_goals first
   | exact h.elim
   | (rename_i hx
      exact .inl ⟨pure (a.eval x),(by rw[fj ho ah];simp[execOp,ho,hx]),.of (by simp[hx]) h⟩)
 case h_9 op t x y _ =>
  replace h:=dZ (dZ h hs) hs;exact .inl ⟨(do eqGuard op t x y (a.eval x) (a.eval y);binOp op t (a.eval x) (a.eval y)),(by rw[fj ho ah];simp[execOp,ho]),aa0 hT h⟩
 case h_10 op _ x =>
  replace h:=dZ h hs;exact .inl ⟨Op.unary op (a.eval x),(by rw[fj ho ah];simp[execOp,ho]),alE h⟩
 case h_11 s d x =>
  exact .inl ⟨convert s d (a.eval x),(by rw[fj ho ah];simp[execOp,ho]),abW hT (dZ h hs)⟩
 case h_12 t x f =>
  exact .inl ⟨Instr.fieldAt t (a.eval x) f,(by rw[fj ho ah];simp[execOp,ho]),acX hT (dZ h hs)⟩
 case h_13 t x f =>
  exact .inl ⟨Instr.field t (a.eval x) f,(by rw[fj ho ah];simp[execOp,ho]),ac0 hT (dZ h hs)⟩
 case h_14 t x i =>
  exact .inl ⟨Instr.indexAt t (a.eval x) (a.eval i),(by rw[fj ho ah];simp[execOp,ho]),ae0 hT (dZ (dZ h hs) hs)⟩
 case h_15 t x i =>
  exact .inl ⟨Instr.index t (a.eval x) (a.eval i),(by rw[fj ho ah];simp[execOp,ho]),ae7 hT (dZ (dZ h hs) hs)⟩
 case h_16 x i =>
  exact .inl ⟨Instr.extract (a.eval x) i,(by rw[fj ho ah];simp[execOp,ho]),acU (dZ h hs)⟩
 case h_17 t parts =>
  replace h:=Om hs h;refine .inl ⟨Instr.build t (parts.map λ(i,x)=>(i,a.eval x)),(by rw[fj ho ah];simp[execOp,ho]),?_⟩;have e:(List.map (λp:Nat×Operand=>(p.1,a.eval p.2)) parts.toList).toArray=parts.map λ(i,x)=>(i,a.eval x):=by apply sr;simp
  rw[<-e];exact aa7 hT h
 case h_18 t n parts =>
  replace h:=Om hs h;refine .inl ⟨Instr.buildSlice t n (parts.map λ(i,x)=>(i,a.eval x)),(by rw[fj ho ah];simp[execOp,ho]),?_⟩;have e:(List.map (λp:Nat×Operand=>(p.1,a.eval p.2)) parts.toList).toArray=parts.map λ(i,x)=>(i,a.eval x):=by apply sr;simp
  rw[<-e];exact aa6 hT h
 case h_19 f first captured =>
  replace h:=vj hs (vj hs h);refine .inl ⟨Instr.makeFunc (.func f) (first.map a.eval) (captured.map a.eval),(by rw[fj ho ah];simp[execOp,ho]),.of ?_ h⟩;have e1:∀l:Array Operand,(List.map a.eval l.toList).toArray=l.map a.eval:=λl=>by apply sr;simp
  rw[e1,e1];simp[Instr.makeFunc]
 case h_20 t x =>
  exact .inl ⟨Instr.makeInterface t (a.eval x),(by rw[fj ho ah];simp[execOp,ho]),dZ h hs⟩
 case h_21 t =>
  exact .inl ⟨Instr.makeMap t none,(by rw[fj ho ah];simp[execOp,ho]),h⟩
 case h_22 t x y =>
  exact .inl ⟨Instr.makeSlice t (a.eval x) (a.eval y),(by rw[fj ho ah];simp[execOp,ho]),dZ (dZ h hs) hs⟩
 case h_23 t x lo hi mx =>
  replace h:=vj hs (vj hs (vj hs (dZ h hs)));simp only[adY]at h;exact .inl ⟨Instr.sliceAt t (a.eval x) (lo.map a.eval) (hi.map a.eval) (mx.map a.eval),(by rw[fj ho ah];simp[execOp,ho]),aj8 hT h⟩
 case h_24 t x i ok =>
  exact .inl ⟨Instr.lookup t (a.eval x) (a.eval i) ok,(by rw[fj ho ah];simp[execOp,ho]),dZ (dZ h hs) hs⟩
 case h_25 t x =>
  exact .inl ⟨Instr.range t (a.eval x),(by rw[fj ho ah];simp[execOp,ho]),dZ h hs⟩
 case h_26 x s =>
  exact .inl ⟨Instr.next (a.eval x) s o.type,(by rw[fj ho ah];simp[execOp,ho]),dZ h hs⟩
 case h_27 x =>
  exact .inl ⟨Instr.entry (a.eval x),(by rw[fj ho ah];simp[execOp,ho]),dZ h hs⟩
 case h_28 t x =>
  exact .inl ⟨Instr.arrayAt t (a.eval x),(by rw[fj ho ah];simp[execOp,ho]),dZ h hs⟩
 case h_29 x t t' ok =>
  exact .inl ⟨Instr.typeAssert (a.eval x) t t' ok,(by rw[fj ho ah];simp[execOp,ho]),dZ h hs⟩
 case h_30 t m i x =>
  obtain⟨w',hr,hk⟩:=XR (dZ (dZ (dZ h hs) hs) hs);exact .inr (.inl ⟨rfl,Instr.mapUpdate t (a.eval m) (a.eval i) (a.eval x),(by rw[fj ho ah];simp[execOp,ho]),w',hr,hk⟩)
 case h_31 t m i x =>
  obtain⟨w',hr,hk⟩:=XR (dZ (dZ (dZ h hs) hs) hs);exact .inr (.inl ⟨rfl,Instr.mapUpdate t (a.eval m) (a.eval i) (a.eval x),(by rw[fj ho ah];simp[execOp,ho]),w',hr,hk⟩)
 case h_32 f args ts =>
  replace h:=vj hs (dZ h hs);unfold Rg at h;split at h
  ·rename_i g first captured hf
   refine .inr (.inr (.inl ⟨rfl,g,(first++args.toList.map a.eval++captured).toArray,?_,h⟩));rw[fj ho ah];simp only[execOp,ho,resolve,hf,Deferred.ofValue,invoke,eU,fP,fb];congr 2;apply sr;simp
  ·rename_i l hf;obtain⟨fn,tmps,assign,body,h1,h2⟩:=h.out;refine .inr (.inr (.inr (.inl ⟨rfl,l,fn,tmps,assign,body,?_,h2.mono λe w' ⟨b,he,hk⟩=>⟨_,he,hk⟩⟩)));rw[fj ho ah];have Hx:(args.toList.map a.eval).toArray=args.map a.eval:=by apply sr;simp
   rw[Hx]at h1;simp only[execOp,ho,resolve,hf,Deferred.ofValue,invoke,eU,fP,fb];rw[<-h1];congr 2;apply sr;simp
  exact h.elim
 case h_33 b args ts =>
  replace h:=vj hs h;have Hx:(args.toList.map a.eval).toArray=args.map a.eval:=by apply sr;simp
  unfold KK at h;split at h
  ·rename_i t x hx;refine .inl ⟨Builtin.len_ #[t] o.type (args.map a.eval),(by rw[fj ho ah];simp[execOp,ho,resolve,invoke,builtin]),afy hT (t:=t) (x:=x) rfl ?_ h⟩;rw[<-Hx,hx];rfl
  all_goals first
   | exact h.elim
   | (rw[Hx]at h
      refine .inl ⟨_,?_,h⟩
      rw[fj ho ah]
      simp[execOp,ho,resolve,invoke,builtin])
 case h_34 x =>
  replace h:=dZ h hs;split at h
  ·rename_i t u hx;refine .inr (.inr (.inr (.inr ⟨rfl,t,u,?_,h⟩)));rw[fj ho ah];simp only[execOp,ho,hx,eU];rfl
  exact h.elim
 case h_35 r m args ts =>
  replace h:=vj hs (dZ h hs);split at h
  ·rename_i t u hr;obtain⟨f,x,hm,h⟩:=h;refine .inr (.inr (.inl ⟨rfl,f,(x::args.toList.map a.eval).toArray,?_,h⟩));rw[fj ho ah];have e:(x::args.toList.map a.eval).toArray=#[x]++args.map a.eval:=by apply sr;simp
   rw[e];have key:∀A:Array aj,(invoke (.fn (.method m) #[]) (#[Value.iface t u]++A)).run C.P w=(callFunc f (#[x]++A)).run C.P w:=by
    intro A;have e0:(#[Value.iface t u]++A)[0]?=some (.iface t u):=by rw[Xm ah];rfl
    simp[invoke,callMethod,e0,go_sem,hm w]
   simp only[execOp,ho,resolve,hr,eU,fP,fb];exact key _
  exact h.elim
 case h_36=>exact h.elim
theorem zP{C:Cx}(hT:cg C.P C.T){o:Oper}{env:Env}{a:Act}(hs:Sat env a.tmps){w:ad}{k:aj->ad->Prop}{Z:List PanicEntry->ad->Prop}
  (h:nQ C o.op o.type env w k Z) {next:Act->ad->Prop} {Q:Exit->Act->ad->Prop} (hn:∀v w',k v w'->next (a.put o.dst v) w') (hz:∀ch w',Z ch w'->Q (.panic ch) a w') :
  o.wpIn (Fr C.r) 0 C.P a w next Q:=by
 rcases Qo hT hs h with⟨s,h1,v,w',hr,hk⟩|⟨_,s,h1,w',hr,hk⟩|⟨_,f,args,h1,h2⟩|⟨_,l,fn,tmps,assign,body,h1,h2⟩|⟨_,t,u,h1,h2⟩
 ·exact alW h1 ⟨v,w',hr,hn _ _ hk⟩
 ·exact alV h1 ⟨w',hr,hn _ _ hk⟩
 ·exact upon_enter h1 (cR.mono h2 hn hz)
 ·refine⟨λ_ _=>trivial,?_⟩;have e:(Fr C.r).round=C.r:=rfl;rw[e,h1];refine⟨λh=>by simp[Fr,Fence.wide]at h,ajj (h2.mono ?_)⟩;rintro e w'⟨v,rfl,hk⟩;exact hn _ _ hk
 refine⟨λ_ _=>trivial,?_⟩;have e:(Fr C.r).round=C.r:=rfl;rw[e,h1];exact hz _ _ h2
def oF(n:Nat)(d:Option Tmp)(v:aj)(env:Env)(k:Env->Prop):Prop :=
 match d with
 | none=>k env
 | some d=>(match Nat.ble (d+1) n with|true=>k ((d,v)::env)|false=>False)
theorem mQ{n:Nat}{d:Option Tmp}{v:aj}{env:Env}{k:Env->Prop}(h:oF n d v env k)(hs:Sat env a.tmps)(hn:a.tmps.size=n) :
  ∃aO,Sat aO (a.put d v).tmps/\(a.put d v).tmps.size=n/\(a.put d v).defers=a.defers/\k aO:=by
 unfold oF at h;split at h
 ·exact⟨env,hs,hn,rfl,h⟩
 rename_i d;split at h
 ·rename_i hb;have hlt:d<a.tmps.size:=by rw[hn];exact aiu hb
  exact⟨_,hs.put hlt v,by simp[Act.put,hn],rfl,h⟩
 exact h.elim
def G6:List Oper->Nat->(Nat->Prop)->Prop
 | [],_,_=>False
 | o::_,0,k=>(match o.dst with|some s=>k s|none=>False)
 | _::r,j+1,k=>G6 r j k
theorem ack{l:List Oper}(h:G6 l j k):∃o s,l[j]?=some o/\o.dst=some s/\k s:=by
 induction l generalizing j with
 | nil=>exact h.elim
 | cons o r ih =>
  cases j with
  | zero =>
   simp only[G6]at h;split at h
   ·rename_i s hs;exact⟨o,s,rfl,hs,h⟩
   exact h.elim
  | succ j=>obtain⟨o',s,h1,h2,h3⟩:=ih h;exact⟨o',s,h1,h2,h3⟩
def vF(ops:List Oper)(env:Env)(g:Option (Nat×Bool))(ex sk:Env->Prop):Prop :=
 match g with
 | none=>ex env
 | some (j,want)=>G6 ops j λs=>um env s λv=>(match v with
  | .bool b=>mA 0 b λb'=>(match b',want with
   | true,true=>ex ((s,.bool true)::env)
   | false,false=>ex ((s,.bool false)::env)
   | true,false=>sk ((s,.bool true)::env)
   | false,true=>sk ((s,.bool false)::env))
  | .tuple _=>sk env
  | _=>False)
theorem AM{env:Env}{ex sk:Env->Prop}{tm:Array aj}(h:vF ops env o.guard ex sk)(hs:Sat env tm) :
  (Region.wanted o (yielded ops.toArray tm)=true/\∃aO,Sat aO tm/\ex aO)\/(Region.wanted o (yielded ops.toArray tm)=false/\∃aO,Sat aO tm/\sk aO):=by
 unfold vF at h;split at h
 ·rename_i hg;exact .inl ⟨by simp[Region.wanted,hg],env,hs,h⟩
 rename_i j want hg;replace h:=ack h;obtain⟨oj,s,ho,hd,h⟩:=h;replace h:=vE.1 h;obtain⟨v,hv,h⟩:=h;have Ei:=hs s v hv;have hy:yielded ops.toArray tm j=match v with|.bool b=>some b|_=>none:=by
  have mK:ops.toArray[j]?=some oj:=by simpa using ho
  simp only[yielded,mK,Option.bind_some,hd,Ei];cases v<;>rfl
 split at h
 ·rename_i b;replace h:=KY.1 h;cases b<;>cases want<;>simp only at h
  ·exact .inl ⟨by simp[Region.wanted,hg,hy],_,hs.cons Ei,h⟩
  ·exact .inr ⟨by simp[Region.wanted,hg,hy],_,hs.cons Ei,h⟩
  ·exact .inr ⟨by simp[Region.wanted,hg,hy],_,hs.cons Ei,h⟩
  exact .inl ⟨by simp[Region.wanted,hg,hy],_,hs.cons Ei,h⟩
 ·exact .inr ⟨by simp[Region.wanted,hg,hy],env,hs,h⟩
 exact h.elim
def IJ:Env->ad->(Env->ad->Prop)->(List PanicEntry->ad->Prop)->Prop:=λenv w K _=>K env w
def ag1(C:Cx)(ops:List Oper)(o:Oper)(_:List Oper)(r:Env->ad->(Env->ad->Prop)->(List PanicEntry->ad->Prop)->Prop):Env->ad->(Env->ad->Prop)->(List PanicEntry->ad->Prop)->Prop :=
 λenv w K Z=>vF ops env o.guard
   (λaO=>nQ C o.op o.type aO w (λv w'=>oF C.n o.dst v aO λe6=>r e6 w' K Z) Z)
   (λaO=>oF C.n o.dst undef aO λe6=>r e6 w K Z)
noncomputable def zM(C:Cx)(ops:List Oper)(l:List Oper):Env->ad->(Env->ad->Prop)->(List PanicEntry->ad->Prop)->Prop :=
 List.rec (motive:=λ_=>Env->ad->(Env->ad->Prop)->(List PanicEntry->ad->Prop)->Prop) IJ (ag1 C ops) l
theorem ZC{C:Cx}{rest:List Oper}{env:Env}{w:ad}{K:Env->ad->Prop}{Z:List PanicEntry->ad->Prop}:zM C ops (o::rest) env w K Z=vF ops env o.guard
   (λaO=>nQ C o.op o.type aO w (λv w'=>oF C.n o.dst v aO λe6=>zM C ops rest e6 w' K Z) Z)
   (λaO=>oF C.n o.dst undef aO λe6=>zM C ops rest e6 w K Z):=rfl
theorem Qn{C:Cx}(hT:cg C.P C.T){ops:List Oper}{Q:Exit->Act->ad->Prop}{K:Env->ad->Prop}{Z:List PanicEntry->ad->Prop}{ds:List Deferred}
  (hQ:∀env (a:Act) w,Sat env a.tmps->a.tmps.size=C.n->a.defers=ds->K env w->Q .normal a w) (hZ:∀(a:Act) w ch,a.tmps.size=C.n->a.defers=ds->Z ch w->Q (.panic ch) a w) :
  ∀ {l:List Oper} {env:Env} {a:Act} {w:ad},Sat env a.tmps->a.tmps.size=C.n->a.defers=ds->zM C ops l env w K Z->wpListIn (Fr C.r) 0 C.P ops.toArray Q l a w
 | [],env,a,w,hs,hn,hd,h=>hQ env a w hs hn hd h
 | o::rest,env,a,w,hs,hn,hd,h=>by
  unfold wpListIn;rw[ZC]at h;rcases AM h hs with⟨hw,aO,hs',h'⟩|⟨hw,aO,hs',h'⟩
  ·rw[ag hw];refine zP hT hs' h' (λv w' hk=>?_) (λch w' hz=>hZ a w' ch hn hd hz);obtain⟨e6,h1,h2,h3,h4⟩:=mQ hk hs' hn;exact Qn hT hQ hZ h1 h2 (h3.trans hd) h4
  rw[ae (by simp[hw])];refine⟨λ_ _=>trivial,?_⟩;obtain⟨e6,h1,h2,h3,h4⟩:=mQ h' hs' hn;exact Qn hT hQ hZ h1 h2 (h3.trans hd) h4
def mO(env:Env):au->(Env->Prop)->Prop
 | [],k=>k []
 | t::ts,k=>match get? env t with
  | some v=>mO env ts λe=>k ((t,v)::e)
  | none=>mO env ts k
theorem Hn{s:Nat}{v:aj}{env:Env}{t:Nat}{u:aj}(h:get? ((s,v)::env) t=some u):(s=t/\v=u)\/get? env t=some u:=by
 simp only[get?]at h;cases e:Nat.beq s t with
 | true=>simp only[e]at h;cases h;exact .inl ⟨qt e,rfl⟩
 | false=>simp only[e]at h;exact .inr h
theorem tz{env:Env}:∀ {ts:au} {k:Env->Prop},mO env ts k->∃e',(∀t v,get? e' t=some v->get? env t=some v)/\k e'
 | [],k,h=>⟨[],λt v h=>by simp[get?]at h,h⟩
 | t::ts,k,h=>by
  simp only[mO]at h;split at h
  ·rename_i v hv;obtain⟨e',h1,h2⟩:=tz h;refine⟨_,λs u hu=>?_,h2⟩;rcases Hn hu with⟨rfl,rfl⟩|hu
   ·exact hv
   exact h1 s u hu
  exact tz h
abbrev iJ:=Exit->Env->List Deferred->ad->Prop
structure aM(C:Cx)(c:Code)(env:Env)(ds:List Deferred)(w:ad)(Q:iJ):Prop where
 out:∀a:Act,Sat env a.tmps->a.tmps.size=C.n->a.defers=ds ->
  c.wpIn (Fr C.r) 0 C.P (λe a' w'=>a'.tmps.size=C.n/\∃aO,Sat aO a'.tmps/\Q e aO a'.defers w') a w
theorem aM.mono{C:Cx}{env:Env}{ds:List Deferred}{w:ad}{Q Q':iJ}(h:aM C c env ds w Q)(hq:∀e env ds w,Q e env ds w->Q' e env ds w):aM C c env ds w Q' :=
 ⟨λa hs hn hd=>wpIn_mono (h.out a hs hn hd) λ_ _ _ ⟨h1,aO,h2,h3⟩=>⟨h1,aO,h2,hq _ _ _ _ h3⟩⟩
abbrev Den:=Env->List Deferred->ad->iJ->Prop
def Rf:Den:=λenv ds w Q=>Q .normal env ds w
def abd(_ _:Code)(x y:Den):Den:=λenv ds w Q=>x env ds w λe aO ds' w'=>(match e with
  | .normal=>y aO ds' w' Q
  | e=>Q e aO ds' w')
def abb(c:Operand)(_ _:Code)(x y:Den):Den:=λenv ds w Q=>dj env c λv=>(match v with
  | .bool b=>mA 0 b λb'=>(match b' with
   | true=>x env ds w Q
   | false=>y env ds w Q)
  | _=>False)
def aba(id:Nat)(_:Code)(c:Den):Den:=λenv ds w Q=>c env ds w λe aO ds' w'=>(match e with
  | .exit yM=>(match Nat.beq yM id with
   | true=>Q .normal aO ds' w'
   | false=>Q (.exit yM) aO ds' w')
  | e=>Q e aO ds' w')
noncomputable def abc(C:Cx)(id:Nat)(ops:Array Oper)(dr:Bool):Den:=λenv ds w Q=>(match dr with
  | false=>zM C ops.toList ops.toList env w (λaO w'=>mO aO C.live λe'=>Q .normal e' ds w') (λch w'=>Q (.panic ch) [] ds w')
  | true=>aM C (.region id ops true) env ds w Q)
noncomputable def jh(C:Cx)(c:Code):Den :=
 Code.rec (motive:=λ_=>Den) (skip:=Rf) (seq:=abd) (cond:=abb) (block:=aba) (region:=abc C) (label:=λ_=>Rf)
  (exit:=λid env ds w Q=>Q (.exit id) env ds w) (ret:=λenv ds w Q=>Q .ret env ds w)
  (loop:=λc _=>aM C (.loop c)) (rangeFunc:=λf ps x y _ _=>aM C (.rangeFunc f ps x y)) (scope:=λc _=>aM C (.scope c)) (goto:=λl=>aM C (.goto l)) (refuse:=λy=>aM C (.refuse y)) c
section
variable{C:Cx}{env:Env}{ds:List Deferred}{w:ad}{Q:iJ}
theorem amh{x y:Code}:jh C (.seq x y) env ds w Q=jh C x env ds w λe aO ds' w'=>(match e with
  | .normal=>jh C y aO ds' w' Q
  | e=>Q e aO ds' w'):=rfl
theorem amg{c:Operand}{x y:Code}:jh C (.cond c x y) env ds w Q=dj env c λv=>(match v with
  | .bool b=>mA 0 b λb'=>(match b' with
   | true=>jh C x env ds w Q
   | false=>jh C y env ds w Q)
  | _=>False):=rfl
theorem amf{id:Nat}:jh C (.block id c) env ds w Q=jh C c env ds w λe aO ds' w'=>(match e with
  | .exit yM=>(match Nat.beq yM id with
   | true=>Q .normal aO ds' w'
   | false=>Q (.exit yM) aO ds' w')
  | e=>Q e aO ds' w'):=rfl
end
theorem tT{C:Cx}(hT:cg C.P C.T):∀ {c:Code} {env:Env} {ds:List Deferred} {w:ad} {Q:iJ},jh C c env ds w Q->aM C c env ds w Q:=by
 intro c;induction c with
 | skip=>exact λh=>⟨λa hs hn hd=>wpIn_skip ⟨hn,_,hs,hd▸h⟩⟩
 | label l=>exact λh=>⟨λa hs hn hd=>wpIn_label ⟨hn,_,hs,hd▸h⟩⟩
 | exit id=>exact λh=>⟨λa hs hn hd=>wpIn_exit ⟨hn,_,hs,hd▸h⟩⟩
 | ret=>exact λh=>⟨λa hs hn hd=>wpIn_ret ⟨hn,_,hs,hd▸h⟩⟩
 | seq x y Ii ihy =>
  intro env ds w Q h;rw[amh]at h;refine⟨λa hs hn hd=>?_⟩;refine wpIn_seq (wpIn_mono ((Ii h).out a hs hn hd) λe a' w' ⟨h1,aO,h2,h3⟩=>?_);cases e with
  | normal=>exact(ihy h3).out a' h2 h1 rfl
  | _=>exact⟨h1,aO,h2,h3⟩
 | cond c x y Ii ihy =>
  intro env ds w Q h;rw[amg]at h;refine⟨λa hs hn hd=>?_⟩;replace h:=dZ h hs;split at h
  ·rename_i b hb;replace h:=KY.1 h;cases b with
   | true=>exact wpIn_cond_true hb ((Ii h).out a hs hn hd)
   | false=>exact wpIn_cond_false hb ((ihy h).out a hs hn hd)
  exact h.elim
 | block id c ih =>
  intro env ds w Q h;rw[amf]at h;refine⟨λa hs hn hd=>?_⟩;refine wpIn_block (wpIn_mono ((ih h).out a hs hn hd) λe a' w' ⟨h1,aO,h2,h3⟩=>?_);cases e with
  | exit yM =>
   simp only at h3;simp only[Exit.inBlock];cases e:Nat.beq yM id with
   | true=>rw[ag (qt e)];simp only[e]at h3;exact⟨h1,aO,h2,h3⟩
   | false=>rw[ae (Oy e)];simp only[e]at h3;exact⟨h1,aO,h2,h3⟩
  | _=>exact⟨h1,aO,h2,h3⟩
 | region id ops dr =>
  intro env ds w Q h;cases dr with
  | true=>exact h
  | false =>
   refine⟨λa hs hn hd=>?_⟩;refine wpIn_region_list ?_;have:=Qn (ops:=ops.toList) (ds:=ds) hT (Q:=λe a' w'=>a'.tmps.size=C.n/\∃aO,Sat aO a'.tmps/\Q e aO a'.defers w') (λaO a' w' h1 h2 h3 h4=>?_) (λa' w' ch h1 h2 h3=>?_) hs hn hd h
   ·simpa using this
   ·obtain⟨e',h5,h6⟩:=tz h4;exact⟨h2,e',λt v ht=>h1 t v (h5 t v ht),h3▸h6⟩
   exact⟨h1,[],Sat.nil _,h2▸h3⟩
 | loop c ih=>exact λh=>h
 | rangeFunc f ps x y Ii ihy=>exact λh=>h
 | scope c ih=>exact λh=>h
 | goto l=>exact λh=>h
 | refuse why=>exact λh=>h
def qI(big:Env):Env->Prop
 | []=>True
 | (t,v)::r=>get? big t=some v/\qI big r
theorem tM{big:Env}:∀ {e:Env},qI big e->∀t v,get? e t=some v->get? big t=some v
 | [],_,t,v,h=>by simp[get?]at h
 | (s,u)::r,⟨h1,h2⟩,t,v,h=>by
  rcases Hn h with⟨rfl,rfl⟩|h
  ·exact h1
  exact tM h2 t v h
theorem ZN{F:Fence}{n:Nat}{Q:Exit->Act->ad->Prop}{w:ad}{S:Type}(I:S->Act->ad->Prop)(μ:S->ad->Nat)(s:S)(aeX:I s a w)
  (round:∀s a w,I s a w->c.wpIn F n P (Exit.then (λa' w'=>∃s',I s' a' w'/\μ s' w'<μ s w) Q) a w):(Code.loop c).wpIn F n P Q a w:=by
 intro b k cs hro hb hr
 have key:∀j s a w,μ s w=j->I s a w ->
   ∃e a' w',Q e a' w'/\ArrivesIn (Machine.fenced P F) P (lone (b.atR a (.code c::.inLoop c::k)) cs w) b k cs e a' w':=by
  intro j;induction j using Nat.strongRecOn with
  | _ j ih =>
   intro s a w hn hI;obtain⟨e,nf,pJ,hq,harr⟩:=round s a w hI b (.inLoop c::k) cs hro hb hr;cases e with
   | normal =>obtain⟨YB,adD,hlt⟩:=hq;obtain⟨acV,GA,amu,aeF,adK⟩:=ih (μ YB pJ) (hn▸hlt) YB nf pJ rfl adD;exact⟨acV,GA,amu,aeF,.of_steps (StepsIn.trans harr (.one (fenced_calm hb hr rfl) stepR_inLoop)) adK⟩
   | exit id=>exact⟨_,nf,pJ,hq,.pass (x:=.inLoop c) rfl (λ_ _=>.inl ah) harr⟩
   | goto l=>exact⟨_,nf,pJ,hq,.pass (x:=.inLoop c) rfl (λ_ _=>.inl ah) harr⟩
   | ret=>exact⟨_,nf,pJ,hq,.pass (x:=.inLoop c) rfl (λ_ _=>.inl ah) harr⟩
   | panic ch=>exact⟨_,nf,pJ,hq,.pass (x:=.inLoop c) rfl (λ_ _=>.inl ah) harr⟩
   | outgrown=>exact⟨_,nf,pJ,hq,.pass (x:=.inLoop c) rfl (λ_ _=>.inl ah) harr⟩
 obtain⟨e,a',w',hq,harr⟩:=key _ s a w rfl aeX;exact⟨e,a',w',hq,.of_steps (.one (fenced_calm hb hr rfl) stepR_loop) harr⟩
theorem aP{C:Cx}(hT:cg C.P C.T){c:Code}{env:Env}{ds:List Deferred}{w:ad}{Q:iJ}{S:Type}(ks:au)(vars:S->Env)
  (I:S->ad->Prop) (μ:S->ad->Nat) (s0:S)
  (h:mO env ks λkm=>qI env (vars s0)/\I s0 w/\∀s w,I s w->jh C c (vars s++km) ds w λe aO ds' w'=>(match e with
   | .normal=>ds'=ds/\qI aO km/\∃s',qI aO (vars s')/\I s' w'/\μ s' w'<μ s w
   | e=>Q e aO ds' w')):aM C (.loop c) env ds w Q:=by
 obtain⟨km,hk,h0,hI,hr⟩:=tz h;have app:∀ {e1 e2:Env} {t:Nat} {v:aj},get? (e1++e2) t=some v->get? e1 t=some v\/get? e2 t=some v:=by
  intro e1 e2 t v h;induction e1 with
  | nil=>exact .inr h
  | cons p r ih =>
   obtain⟨s,u⟩:=p;simp only[bb,get?]at h |-;cases e:Nat.beq s t with
   | true=>simp only[e]at h |-;exact .inl h
   | false=>simp only[e]at h |-;exact ih h
 refine⟨λa hs hn hd=>?_⟩
 refine ZN (λs a w=>a.tmps.size=C.n/\a.defers=ds/\Sat (vars s++km) a.tmps/\I s w) μ s0
  ⟨hn,hd,λt v h=>(app h).elim (λh=>hs t v (tM h0 t v h)) (λh=>hs t v (hk t v h)),hI⟩ ?_
 rintro s a w⟨hn,hd,hs,hI⟩;refine wpIn_mono ((tT hT (hr s w hI)).out a hs hn hd) λe a' w' ⟨h1,aO,h2,h3⟩=>?_;cases e with
 | normal =>obtain⟨h4,h8,s',h5,h6,h7⟩:=h3;exact⟨s',⟨h1,h4,λt v h=>(app h).elim (λh=>h2 t v (tM h5 t v h)) (λh=>h2 t v (tM h8 t v h)),h6⟩,h7⟩
 | _=>exact⟨h1,aO,h2,h3⟩
def Pb(C:Cx)(x:ResultVar)(env:Env)(w:ad)(k:aj->Prop):Prop :=
 match x with
 | .tmp t=>um env t k
 | .cell t ty=>um env t λv=>we C ty v w λu _=>k u
def Pc(C:Cx)(env:Env)(w:ad):List ResultVar->(aC->Prop)->Prop
 | [],k=>k []
 | x::xs,k=>Pb C x env w λv=>Pc C env w xs λvs=>k (v::vs)
def tG(C:Cx)(xs:List ResultVar)(env:Env)(w:ad)(k:aj->Prop):Prop :=
 match xs with
 | [x]=>Pb C x env w k
 | xs=>Pc C env w xs λvs=>k (.tuple vs.toArray)
def Fu(tm:Array aj)(x:ResultVar):Sem aj:=match x with|.tmp t=>pure (tm.getD t undef)|.cell a t=>do loadVar t (<-asAddr (tm.getD a undef))
theorem ajg(fn:Func)(tm:Array aj):results fn tm=(do let vs <-fn.results.mapM (Fu tm);pure (if h:vs.size=1 then vs[0]else .tuple vs)):=rfl
theorem XI{C:Cx}(hT:cg C.P C.T){x:ResultVar}{env:Env}{w:ad}{k:aj->Prop}{tm:Array aj}(hs:Sat env tm)(h:Pb C x env w k) :
  ∃v,(Fu tm x).run C.P w=.ok v w/\k v:=by
 cases x with
 | tmp t =>obtain⟨v,hv,hk⟩:=vE.1 h;have:=hs t v hv;exact⟨v,by simp[Fu,Jn,this],hk⟩
 | cell t ty =>obtain⟨v,hv,hk⟩:=vE.1 h;have:=hs t v hv;obtain⟨a,u,rfl,hr,hk⟩:=Vp hT hk;exact⟨u,by simp[Fu,Jn,this,asAddr,hr],hk⟩
theorem XJ{C:Cx}(hT:cg C.P C.T){env:Env}{w:ad}{tm:Array aj}(hs:Sat env tm):∀ {xs:List ResultVar} {k:aC->Prop},Pc C env w xs k ->
  ∃vs,(xs.mapM (Fu tm)).run C.P w=.ok vs w/\vs.length=xs.length/\k vs
 | [],k,h=>⟨[],ah,rfl,h⟩
 | x::xs,k,h=>by obtain⟨v,hv,h⟩:=XI hT hs h;obtain⟨vs,hvs,hl,hk⟩:=XJ hT hs h;refine⟨v::vs,?_,by simp[hl],hk⟩;rw[OT];simp[hv,hvs]
theorem JD{C:Cx}(hT:cg C.P C.T){fn:Func}{env:Env}{w:ad}{tm:Array aj}(hs:Sat env tm){k:aj->Prop}(h:tG C fn.results.toList env w k) :
  ∃v,(results fn tm).run C.P w=.ok v w/\k v:=by
 rw[ajg,<-Xi (xs:=fn.results),ait];unfold tG at h;split at h
 ·rename_i x hx;obtain⟨v,hv,hk⟩:=XI hT hs h;refine⟨v,?_,hk⟩;rw[hx];simp[hv]
 rename_i hne;obtain⟨vs,hvs,hl,hk⟩:=XJ hT hs h;refine⟨_,?_,hk⟩;simp only[eU,Sem.run_map,hvs,fb,fP];rw[dif_neg];intro h1;have:fn.results.toList.length=1:=by simpa [hl]using h1
 obtain⟨x,hx⟩:=List.length_eq_one_iff.1 this;exact hne x hx
def nc:Nat->aC->Env
 | _,[]=>[]
 | i,v::r=>(i,v)::nc (i+1) r
theorem Gw{l:aC}{m:Nat}:Sat (nc 0 l) (l.toArray++Array.replicate m undef):=by
 have key:∀(l pre:aC) t v,get? (nc pre.length l) t=some v->(pre++l)[t]?=some v:=by
  intro l;induction l with
  | nil=>intro pre t v h;simp[nc,get?]at h
  | cons u r ih =>
   intro pre t v h;rcases Hn h with⟨rfl,rfl⟩|h
   ·simp
   have:=ih (pre++[u]) t v (by simpa using h);simpa using this
 intro t v h;have:=key l [] t v h;simp only[aL]at this;have hlt:t<l.length:=(dH.1 this).1;rw[Xm (by simpa using hlt)];simpa using this
def uP:List Deferred->ad->(ad->Prop)->Prop
 | [],w,k=>k w
 | d::ds,w,k=>match d.target with
  | .collected D=>w.heap[D]?=some (.deferred (some []))/\∀w',Tw D w w'->uP ds w' k
  | _=>False
theorem YY{w:ad}{D:Nat}{o o':Obj}(h:w.heap[D]?=some o)(ho:∀c t f,o≠.cells c t f):Tw D w (w.putObj D o'):=by
 refine⟨rfl,rfl,rfl,by simp[World.putObj],λk hk=>Go.World.putObj_heap_other aa,λk c t f hk=>?_⟩;have hne:k≠D:=by intro e;subst e;rw[h]at hk;cases hk;exact ho c t f rfl
 rw[Go.World.putObj_heap_other hne];exact hk
theorem ED{P:Program}{fn:Func}{tm:Array aj}{R:Ending->ad->Prop}{u:FrameMode}(hu:u≠.run):∀ {ds:List Deferred} {w:ad} {k:ad->Prop},uP ds w k->(∀w',k w'->LeavesInM (Fr none) 0 P fn tm R [] u w')->LeavesInM (Fr none) 0 P fn tm R ds u w
 | [],w,k,h,hk=>hk w h
 | d::ds,w,k,h,hk=>by
  unfold uP at h;split at h
  ·rename_i D hD;obtain⟨h1,h2⟩:=h;refine⟨hu,.inl ⟨D,_,hD,run_takeDeferred h1,?_⟩⟩;exact ED hu (h2 _ (YY h1 (λ_ _ _=>nofun))) hk
  exact h.elim
def LD(C:Cx)(rs:List ResultVar)(K:aj->ad->Prop)(Z:List PanicEntry->ad->Prop):iJ:=λe env ds w =>
 match e with
 | .normal=>uP ds w λw'=>tG C rs env w' λv=>K v w'
 | .ret=>uP ds w λw'=>tG C rs env w' λv=>K v w'
 | .panic ch=>uP ds w λw'=>Z ch w'
 | _=>False
theorem abf{T:List TD}(hT:cg P T){f:FuncId}{fn:Func}{c:Code}{args:aC}{w:ad}{K:aj->ad->Prop}{Z:List PanicEntry->ad->Prop}
  (hf:P.funcs[f]?=some fn) (hb:fn.body=some c) (hname:(fn.name == "runtime.NumGoroutine")=false) (n:Nat) (hn:fn.ntmps=n) (ha:args.length<=n) (live:au)
  (h:jh ⟨P,T,n,live,none⟩ c (nc 0 args) [] w (LD ⟨P,T,n,live,none⟩ fn.results.toList K Z)):cR P f args.toArray w K Z:=by
 refine⟨.inl ⟨xG hf (by simp[hb]) hname,(CS (r:=none) (n:=0)).1 ?_⟩⟩;refine callsIn_of_wp_marks hf hb trivial ?_;have hs:Sat (nc 0 args) (args.toArray++Array.replicate (fn.ntmps-args.toArray.size) undef):=Gw;refine wpIn_mono ((tT hT h).out { tmps:=args.toArray++Array.replicate (fn.ntmps-args.toArray.size) undef,defers:=[] } hs (by simp;omega) rfl) ?_;rintro e a w'⟨h1,aO,h2,h3⟩;have fin:∀ {ds w},(uP ds w λw'=>tG ⟨P,T,n,live,none⟩ fn.results.toList aO w' λv=>K v w')->LeavesInM (Fr none) 0 P fn a.tmps (λe w'=>match e with|.returned v=>K v w'|.panicked ch=>Z ch w'|.outgrown=>False) ds .returning w:=by intro ds w h;refine ED ah h λw' h=>?_;obtain⟨v,hr,hk⟩:=JD (C:=⟨P,T,n,live,none⟩) hT h2 h;exact⟨v,hr,hk⟩
 cases e with
 | normal=>exact fin h3
 | ret=>exact fin h3
 | panic ch=>exact ED ah h3 λw' h=>h
 | exit id=>exact h3.elim
 | goto l=>exact h3.elim
 | outgrown=>exact h3.elim
end Go.Proofs.YtmoiobegbpkkbaaGreatDoor
