import Derived.TacticsIn
import Derived.TacticsInMore
import Derived.RangeFuncIn
import Derived.Laws.AppendOwn
import Derived.Laws.CopyRow
import Derived.Laws.Cells
import Derived.Laws.Entries
import Derived.Below
import Derived.KernelRfl
import Derived.Laws.Tables
import Derived.Laws.Strings
import Derived.Laws.Strings2
import Derived.Laws.StructEq
namespace Go.Proofs.YtmoiobegbpkkbaaGreatDoor
open Go Go.RowKit
set_option maxRecDepth 100000
set_option maxHeartbeats 8000000
theorem  aa {p:Prop}(h:p:=by omega):p:=h
theorem  ag {p:Prop}(h:p:=by decide):p:=h
theorem  ab {p:Prop}(h:p:=by kernel_rfl):p:=h
theorem  ae {p:Prop}(h:p:=by simp):p:=h
theorem  bo {p:Prop}(h:p:=by rfl):p:=h
theorem sB {p:Prop} (h:p:=by repeat (first|exact trivial|refine ⟨rfl,?_⟩)):p:=h
def Fr (r:Option Nat):Fence:={ Fence.wide with round:=r }
theorem EC (r:Option Nat) (n:Nat):(Fr r).room n:=fun _ h=>by simp [Fr,Fence.wide] at h
theorem tn {r:Option Nat} {n:Nat} {P:Program} {f:FuncId} {args:Array Value} {w:World} {R:Ending→World→Prop} :
  CallsIn (Fr r) n P f args w R↔Calls P f args w R :=
 ⟨fun h=>callsIn_wide (n:=0).1 ⟨trivial,fun cs _=>h.2 cs (EC _ _)⟩,
  fun h=>⟨trivial,fun cs _=>((callsIn_wide (n:=0)).2 h).2 cs (room_wide _)⟩⟩
def Enters (P:Program) (f:FuncId):Prop:=∀args w,(callFunc f args).run P w=.ok (.enter f args) w
theorem ph {P:Program} {f:FuncId} {fn:Func} (hf:P.funcs[f]?=some fn) (hb:fn.body.isSome=true) (hn:(fn.name == "runtime.NumGoroutine")=false):Enters P f:=by
 intro args w
 cases h:fn.body with
 | none=>simp [h] at hb
 | some c =>
  have hn':¬fn.name = "runtime.NumGoroutine":=by simpa using hn
  simp [callFunc,hf,hn',h]
structure aX (P:Program) (f:FuncId) (args:Array Value) (w:World) (K:Value→World→Prop) (Z:List PanicEntry→World→Prop):Prop where
 out:(Enters P f∧Calls P f args w fun e w'=>match e with|.returned v=>K v w'|.panicked ch=>Z ch w'|.outgrown=>False)∨∃v w',(callFunc f args).run P w=.ok (.value v) w'∧K v w'
theorem Calls.iw {P:Program} {f:FuncId} {args:Array Value} {w:World} {R R':Ending→World→Prop} (h:Calls P f args w R) (hr:∀e w',R e w'→R' e w'):Calls P f args w R' :=
 fun cs=>let ⟨e,w',fr,r,s⟩:=h cs;⟨e,w',fr,hr _ _ r,s⟩
theorem aX.mono {P:Program} {f:FuncId} {args:Array Value} {w:World} {K K':Value→World→Prop} {Z Z':List PanicEntry→World→Prop}
  (h:aX P f args w K Z) (hk:∀v w',K v w'→K' v w') (hz:∀c w',Z c w'→Z' c w'):aX P f args w K' Z' :=
 ⟨h.out.imp (fun ⟨he,hc⟩=>⟨he,Calls.iw hc fun e w' r=>by cases e with
  | returned v=>exact hk _ _ r
  | panicked c=>exact hz _ _ r
  | outgrown=>exact r⟩) fun ⟨v,w',hr,h⟩=>⟨v,w',hr,hk _ _ h⟩⟩
theorem aX.OY {P:Program} {f:FuncId} {args:Array Value} {w:World} {K:Value→World→Prop} {Z:List PanicEntry→World→Prop} (he:Enters P f) (h:aX P f args w K Z) :
  Calls P f args w fun e w'=>match e with|.returned v=>K v w'|.panicked ch=>Z ch w'|.outgrown=>False:=by
 rcases h.out with ⟨_,h⟩|⟨v,w',hr,_⟩
 ·exact h
 ·rw [he args w] at hr
  cases hr
abbrev aj (P:Program) (f:FuncId) (args:Array Value) (w:World) (K:Value→World→Prop):Prop:=aX P f args w K (fun _ _=>False)
theorem aj.use {P:Program} {f:FuncId} {args:Array Value} {w:World} {K K':Value→World→Prop} {Z:List PanicEntry→World→Prop}
  (h:aj P f args w K) (hk:∀v w',K v w'→K' v w'):aX P f args w K' Z:=aX.mono h hk (fun _ _ h=>h.elim)
theorem aj.mono {P:Program} {f:FuncId} {args:Array Value} {w:World} {K K':Value→World→Prop}
  (h:aj P f args w K) (hk:∀v w',K v w'→K' v w'):aj P f args w K':=aX.mono h hk (fun _ _ h=>h.elim)
theorem aj.calls {P:Program} {f:FuncId} {args:Array Value} {w:World} {K:Value→World→Prop} (he:Enters P f) (h:aj P f args w K) :
  Calls P f args w fun e w'=>∃v,e=.returned v∧K v w' :=
 Calls.iw (aX.OY he h) fun e w' r=>by cases e with
  | returned v=>exact ⟨v,rfl,r⟩
  | panicked c=>exact r.elim
  | outgrown=>exact r.elim
theorem U8 {r r':Option Nat} {n n':Nat} {P:Program} {l:Nat} {f:FuncId} {tmps:Array Value} {assign body:Code} {w:World} {R:Ending→World→Prop} (h:RoundIn (Fr r) n P l f tmps assign body w R) :
  RoundIn (Fr r') n' P l f tmps assign body w R:=⟨trivial,fun c cs _=>h.2 c cs (EC _ _)⟩
structure tc (P:Program) (l:Nat) (args:Array Value) (W:World) (R:Bool→World→Prop):Prop where
 out:∃fn tmps assign body,(Instr.yield l args).run P W=.ok (.round l fn tmps assign body) W∧RoundIn (Fr none) 0 P l fn tmps assign body W fun e W'=>∃b,e=.returned (.bool b)∧R b W'
theorem tc.mono {P:Program} {l:Nat} {args:Array Value} {W:World} {R R':Bool→World→Prop} (h:tc P l args W R) (hr:∀b W',R b W'→R' b W'):tc P l args W R':=by
 obtain ⟨fn,tmps,assign,body,h1,h2⟩:=h.out
 exact ⟨fn,tmps,assign,body,h1,h2.mono fun e W' ⟨b,he,hb⟩=>⟨b,he,hr b W' hb⟩⟩
abbrev Env:=List (Nat×Value)
def get?:Env→Nat→Option Value
 | [],_=>none
 | (s,v)::r,t=>match Nat.beq s t with|true=>some v|false=>get? r t
def my:Env→Nat→(Value→Prop)→Prop
 | [],_,_=>False
 | (s,v)::r,t,k=>match Nat.beq s t with|true=>k v|false=>my r t k
theorem nM {env:Env} {t:Nat} {k:Value→Prop}:my env t k↔∃v,get? env t=some v∧k v:=by
 induction env with
 | nil=>simp [my,get?]
 | cons p r ih =>
  obtain ⟨s,v⟩:=p
  simp only [my,get?]
  cases h:Nat.beq s t with
  | true=>simp
  | false=>exact ih
def Sat (env:Env) (tm:Array Value):Prop:=∀t v,get? env t=some v→tm[t]?=some v
theorem Sat.nil (tm:Array Value):Sat [] tm:=fun _ _ h=>by simp [get?] at h
theorem Sat.put {env:Env} {tm:Array Value} (h:Sat env tm) {d:Nat} (hd:d<tm.size) (v:Value):Sat ((d,v)::env) (tm.setIfInBounds d v):=by
 intro t u hu
 simp only [get?] at hu
 cases e:Nat.beq d t with
 | true =>
  simp only [e] at hu
  have:d=t:=Nat.eq_of_beq_eq_true e
  subst this
  cases hu
  simp [hd]
 | false =>
  simp only [e] at hu
  have:d≠t:=Nat.ne_of_beq_eq_false e
  rw [Array.getElem?_setIfInBounds]
  simp [this,h t u hu]
theorem Sat.cons {env:Env} {tm:Array Value} (h:Sat env tm) {d:Nat} {v:Value} (hd:tm[d]?=some v):Sat ((d,v)::env) tm:=by
 intro t u hu
 simp only [get?] at hu
 cases e:Nat.beq d t with
 | true =>
  simp only [e] at hu
  have:d=t:=Nat.eq_of_beq_eq_true e
  subst this
  cases hu
  exact hd
 | false=>simp only [e] at hu;exact h t u hu
def bf (env:Env) (x:Operand) (k:Value→Prop):Prop :=
 match x with
 | .tmp t=>my env t k
 | .const v=>k v
 | .global g=>k (.pointer (some ⟨g,0,none⟩))
 | .func f=>k (.func (.func f) #[] #[])
theorem bF {env:Env} {x:Operand} {k:Value→Prop} {a:Act} (h:bf env x k) (hs:Sat env a.tmps):k (a.eval x):=by
 cases x with
 | tmp t =>
  obtain ⟨v,hv,hk⟩:=nM.1 h
  have:=hs t v hv
  simp only [Act.eval,Array.getD_eq_getD_getElem?,this,Option.getD_some]
  exact hk
 | const v=>exact h
 | global g=>exact h
 | func f=>exact h
def eT (env:Env):List Operand→(List Value→Prop)→Prop
 | [],k=>k []
 | x::xs,k=>bf env x fun v=>eT env xs fun vs=>k (v::vs)
theorem nr {env:Env} {a:Act} (hs:Sat env a.tmps):∀ {xs:List Operand} {k:List Value→Prop},eT env xs k→k (xs.map a.eval)
 | [],_,h=>h
 | x::xs,k,h=>by
  have h1:=bF h hs
  exact nr hs (xs:=xs) h1
def gK:Nat→Bool→(Bool→Prop)→Prop
 | 0,true,F=>F true
 | 0,false,F=>F false
 | n+1,b,F=>gK n b F
theorem Ax {b:Bool} {F:Bool→Prop}:gK 0 b F↔F b:=by cases b<;>exact Iff.rfl
theorem q7 {b:Bool} {F:Bool→Prop} (h1:b=true→F true) (h2:b=false→F false):gK 0 b F:=by
 cases b with
 | true=>exact h1 rfl
 | false=>exact h2 rfl
theorem dw {p:Prop} {_:Decidable p} {F:Bool→Prop} (h1:p→F true) (h2:¬p→F false):gK 0 (decide p) F :=
 q7 (fun h=>h1 (of_decide_eq_true h)) (fun h=>h2 (of_decide_eq_false h))
theorem tu {p:Prop} {_:Decidable p} {F:Bool→Prop} (h1:¬p→F true) (h2:p→F false):gK 0 (!decide p) F:=by
 by_cases h:p
 ·simp only [h,decide_true,Bool.not_true];exact h2 h
 ·simp only [h,decide_false,Bool.not_false];exact h1 h
theorem NS {b:Bool} {F:Bool→Prop} (h:b=true) (h1:F true):gK 0 b F:=by subst h;exact h1
theorem Ay {b:Bool} {F:Bool→Prop} (h:b=false) (h1:F false):gK 0 b F:=by subst h;exact h1
def bD (w:World) (b:Nat) (l:List Value) (t:TypeId):Prop:=w.heap[b]?=some (.cells l.toArray t (0,0))
structure kx (w:World) (b:Nat) (l:List Value) (t:TypeId) (w':World):Prop where
 num:b=w.heap.size
 wd:w'=w.alloc (.cells l.toArray t)
structure ml (w:World) (b:Nat) (l:List Value) (t:TypeId) (w':World):Prop where
 wd:w'={ w with heap:=w.heap.setIfInBounds b (.cells l.toArray t (0,0)) }
abbrev Ext (w w':World):Prop:=Below w.heap.size w w'
theorem Ext.refl (w:World):Ext w w:=Below.refl _ _
theorem Ext.trans {a b c:World} (h:Ext a b) (k:Ext b c):Ext a c:=Below.trans h (k.mono h.size)
theorem kx.ext {w:World} {b:Nat} {l:List Value} {t:TypeId} {w':World} (h:kx w b l t w'):Ext w w':=by
 obtain ⟨_,rfl⟩:=h
 exact (Below.refl _ _).alloc (Nat.le_refl _) _
theorem kx.al {w:World} {b:Nat} {l:List Value} {t:TypeId} {w':World} (h:kx w b l t w'):bD w' b l t:=by
 obtain ⟨rfl,rfl⟩:=h
 exact heap_alloc_new w _
theorem bD.lt {w:World} {b:Nat} {l:List Value} {t:TypeId} (h:bD w b l t):b<w.heap.size:=(Array.getElem?_eq_some_iff.1 h).1
theorem bD.cell {w:World} {b:Nat} {l:List Value} {t:TypeId} (h:bD w b l t) (i:Nat):w.cell? ⟨b,i,none⟩=l[i]?:=by
 unfold bD at h
 simp [World.cell?,h]
theorem ml.al {w:World} {b:Nat} {l:List Value} {t:TypeId} {w':World} (h:ml w b l t w') (hb:b<w.heap.size):bD w' b l t:=by
 obtain ⟨rfl⟩:=h
 simp [bD,hb]
theorem ml.size {w:World} {b:Nat} {l:List Value} {t:TypeId} {w':World} (h:ml w b l t w'):w'.heap.size=w.heap.size:=by
 obtain ⟨rfl⟩:=h
 simp
theorem ml.other {w:World} {b:Nat} {l:List Value} {t:TypeId} {w':World} (h:ml w b l t w') {c:Nat} (hc:c≠b):w'.heap[c]?=w.heap[c]?:=by
 obtain ⟨rfl⟩:=h
 simp [Ne.symm hc]
def s6 (fz:Nat×Nat) (n:Nat):Prop:=∀j,j<n→¬(fz.1≤j∧j<fz.2)
def jQ (w:World) (b:Nat) (cur:Array Value) (t:TypeId):Prop:=∃fz,w.heap[b]?=some (.cells cur t fz)∧s6 fz cur.size
abbrev jd (w:World) (b:Nat) (l:List Value) (t:TypeId):Prop:=jQ w b l.toArray t
structure hC (w:World) (b:Nat) (l:List Value) (t:TypeId) (w':World):Prop where
 wd:∃fz cs,w.heap[b]?=some (.cells cs t fz)∧w'={ w with heap:=w.heap.setIfInBounds b (.cells l.toArray t fz) }
theorem s6.zero (n:Nat):s6 (0,0) n:=fun j _ h=>Nat.not_lt_zero j h.2
theorem bD.f {w:World} {b:Nat} {l:List Value} {t:TypeId} (h:bD w b l t):jd w b l t:=⟨(0,0),h,.zero _⟩
theorem jQ.lt {w:World} {b:Nat} {cur:Array Value} {t:TypeId} (h:jQ w b cur t):b<w.heap.size:=by
 obtain ⟨fz,h1,_⟩:=h
 exact (Array.getElem?_eq_some_iff.1 h1).1
theorem jQ.fw {w w':World} {b:Nat} {cur:Array Value} {t:TypeId} (h:jQ w b cur t) (hk:w'.heap[b]?=w.heap[b]?):jQ w' b cur t:=by
 obtain ⟨fz,h1,h2⟩:=h
 exact ⟨fz,hk.trans h1,h2⟩
theorem jQ.cell {w:World} {b:Nat} {cur:Array Value} {t:TypeId} (h:jQ w b cur t) (i:Nat):w.cell? ⟨b,i,none⟩=cur[i]?:=by
 obtain ⟨fz,h1,_⟩:=h
 simp [World.cell?,h1]
theorem hC.vP {w:World} {b:Nat} {c l:List Value} {t:TypeId} {w':World} (h:hC w b l t w') (hb:bD w b c t):ml w b l t w':=by
 obtain ⟨fz,cs,h1,h2⟩:=h.wd
 have e:=(show w.heap[b]?=some (.cells c.toArray t (0,0)) from hb).symm.trans h1
 injection e with e
 injection e with _ _ e
 subst e
 exact ⟨h2⟩
theorem hC.other {w:World} {b:Nat} {l:List Value} {t:TypeId} {w':World} (h:hC w b l t w') {c:Nat} (hc:c≠b):w'.heap[c]?=w.heap[c]?:=by
 obtain ⟨fz,cs,_,rfl⟩:=h.wd
 simp [Ne.symm hc]
theorem hC.row {w:World} {b:Nat} {l:List Value} {cur:Array Value} {t:TypeId} {w':World} (h:hC w b l t w') (hb:jQ w b cur t) (hl:l.length=cur.size):jQ w' b l.toArray t:=by
 obtain ⟨fz,cs,h1,rfl⟩:=h.wd
 obtain ⟨Yt,h2,h3⟩:=hb
 have hlt:=(Array.getElem?_eq_some_iff.1 h1).1
 have e:=h1.symm.trans h2
 injection e with e
 injection e with e1 _ e2
 subst e1 e2
 exact ⟨fz,by simp [hlt],by simpa [hl] using h3⟩
structure Tw (B:Nat) (w w':World):Prop where
 os:w'.os=w.os
 tape:w'.tape=w.tape
 output:w'.output=w.output
 size:w.heap.size≤w'.heap.size
 low:∀k,k<B→w'.heap[k]?=w.heap[k]?
 bt:∀(k:Nat) (c:Array Value) (t:TypeId) (f:Nat×Nat),w.heap[k]?=some (Obj.cells c t f)→w'.heap[k]?=some (Obj.cells c t f)
theorem Ext.tw {B:Nat} {w w':World} (h:Ext w w') (hB:B≤w.heap.size):Tw B w w' :=
 ⟨h.os,h.tape,h.output,h.size,fun k hk=>h.block k aa,fun k c t f hk=>(h.block k (Array.getElem?_eq_some_iff.1 hk).1).trans hk⟩
theorem Tw.mono {B B':Nat} {a b:World} (h:Tw B a b) (hB:B'≤B):Tw B' a b:=⟨h.os,h.tape,h.output,h.size,fun k hk=>h.low k aa,h.bt⟩
theorem bD.tw {B:Nat} {w w':World} {b:Nat} {l:List Value} {t:TypeId} (h:bD w b l t) (hb:Tw B w w'):bD w' b l t:=hb.bt _ _ _ _ h
structure aH (P:Program) (s:Sem Value) (w:World) (k:Value→World→Prop):Prop where
 ex:∃v w',s.run P w=.ok v w'∧k v w'
theorem aH.of {P:Program} {s:Sem Value} {w:World} {k:Value→World→Prop} {v:Value} {w':World} (h:s.run P w=.ok v w') (hk:k v w'):aH P s w k:=⟨v,w',h,hk⟩
inductive jS where
 | bool|int (k:IntKind)|string|pointer (e:TypeId)|slice (e:TypeId)|array (n:Nat) (e:TypeId)|map (k e:TypeId)|struct (fs:List (Nat×TypeId))|blank|func|iface|other
def bO:TypeDesc→jS
 | .bool=>.bool|.int k=>.int k|.string=>.string|.pointer e=>.pointer e|.slice e=>.slice e|.array n e=>.array n e|.map k e=>.map k e
 | .struct fs=>(match fs.any fun f=>f.name == "_" with|true=>.blank|false=>.struct (fs.toList.map fun f=>(f.offset,f.type)))|.func _ _ _=>.func|.interface _=>.iface|_=>.other
structure TD where
 under:jS
 size:Nat
 bytes:Nat
 zero:Option Value
 eq:Bool:=false
def bV:List TD→Nat→(TD→Prop)→Prop
 | [],_,_=>False
 | d::_,0,k=>k d
 | _::r,t+1,k=>bV r t k
theorem D5 {T:List TD} {t:Nat} {k:TD→Prop}:bV T t k↔∃d,T[t]?=some d∧k d:=by
 induction T generalizing t with
 | nil=>simp [bV]
 | cons d r ih =>
  cases t with
  | zero=>simp [bV]
  | succ t=>simp only [bV,List.getElem?_cons_succ];exact ih
structure bH (P:Program) (t:TypeId) (d:TD):Prop where
 under:∃d0,P.underlying t=some d0∧bO d0=d.under
 info:∃i,P.info? t=some i∧i.size=d.size∧i.bytes=d.bytes∧i.zero=d.zero
 eq:d.eq=true→P.eqGuardType P.depth t=false∧P.stoodInHeld t=false
def aQ (P:Program) (T:List TD):Prop:=∀t d,T[t]?=some d→bH P t d
theorem di {P:Program} {T:List TD} (hT:aQ P T) {t:Nat} {k:TD→Prop} (h:bV T t k):∃d,bH P t d∧k d:=by
 obtain ⟨d,hd,hk⟩:=D5.1 h
 exact ⟨d,hT t d hd,hk⟩
def D2 (P:Program):List (Option jS×Option (Nat×Nat×Option Value)) :=
 (List.range P.types.size).map fun t=>((P.underlying t).map bO,(P.info? t).map fun i=>(i.size,i.bytes,i.zero))
def O1 (P:Program) (es:List TypeId):Bool:=es.all fun t=>!P.eqGuardType P.depth t&&!P.stoodInHeld t
theorem Wz {P:Program} {T:List TD} {es:List TypeId} (h:D2 P=T.map fun d=>(some d.under,some (d.size,d.bytes,d.zero))) (h':O1 P es=true)
  (h'':(T.zipIdx.all fun p=>!p.1.eq||es.contains p.2)=true):aQ P T:=by
 intro t d hd
 have h1:(D2 P)[t]?=some (some d.under,some (d.size,d.bytes,d.zero)):=by rw [h,List.getElem?_map,hd];rfl
 unfold D2 at h1
 rw [List.getElem?_map] at h1
 by_cases ht:t<P.types.size
 ·rw [List.getElem?_range ht] at h1
  simp only [Option.map_some,Option.some.injEq,Prod.mk.injEq] at h1
  obtain ⟨h2,h3⟩:=h1
  refine ⟨?_,?_,fun he=>?_⟩
  ·cases hu:P.underlying t with
   | none=>simp [hu] at h2
   | some d0=>simp only [hu,Option.map_some,Option.some.injEq] at h2;exact ⟨d0,rfl,h2⟩
  ·cases hi:P.info? t with
   | none=>simp [hi] at h3
   | some i =>
    simp only [hi,Option.map_some,Option.some.injEq,Prod.mk.injEq] at h3
    exact ⟨i,rfl,h3.1,h3.2.1,h3.2.2⟩
  ·have hm:(d,t)∈T.zipIdx:=by rw [List.mem_iff_getElem?];exact ⟨t,by rw [List.getElem?_zipIdx,hd];simp⟩
   have h4:=List.all_eq_true.1 h'' _ hm
   simp only [he,Bool.not_true,Bool.false_or,List.contains_iff_mem] at h4
   have h5:=List.all_eq_true.1 h' _ h4
   simpa using h5
 ·rw [List.getElem?_eq_none (by simpa using ht)] at h1
  simp at h1
section
variable {P:Program} {t:TypeId} {d:TD}
theorem bH.k8 (h:bH P t d) (w:World):∃d0,(underlying t).run P w=.ok d0 w∧bO d0=d.under:=by
 obtain ⟨d0,h1,h2⟩:=h.under
 exact ⟨d0,run_underlying h1 w,h2⟩
theorem bH.slice (h:bH P t d) {e:TypeId} (hu:d.under=.slice e) (w:World):(underlying t).run P w=.ok (.slice e) w:=by
 obtain ⟨d0,h1,h2⟩:=h.k8 w
 rw [hu] at h2
 cases d0<;>first|(simp_all [bO];done)|(simp only [bO] at h2;split at h2<;>cases h2)
theorem bH.array (h:bH P t d) {n e:Nat} (hu:d.under=.array n e) (w:World):(underlying t).run P w=.ok (.array n e) w:=by
 obtain ⟨d0,h1,h2⟩:=h.k8 w
 rw [hu] at h2
 cases d0<;>first|(simp_all [bO];done)|(simp only [bO] at h2;split at h2<;>cases h2)
theorem bH.string (h:bH P t d) (hu:d.under=.string) (w:World):(underlying t).run P w=.ok .string w:=by
 obtain ⟨d0,h1,h2⟩:=h.k8 w
 rw [hu] at h2
 cases d0<;>first|(simp_all [bO];done)|(simp only [bO] at h2;split at h2<;>cases h2)
theorem bH.bool (h:bH P t d) (hu:d.under=.bool) (w:World):(underlying t).run P w=.ok .bool w:=by
 obtain ⟨d0,h1,h2⟩:=h.k8 w
 rw [hu] at h2
 cases d0<;>first|(simp_all [bO];done)|(simp only [bO] at h2;split at h2<;>cases h2)
theorem bH.int (h:bH P t d) {k:IntKind} (hu:d.under=.int k) (w:World):(underlying t).run P w=.ok (.int k) w:=by
 obtain ⟨d0,h1,h2⟩:=h.k8 w
 rw [hu] at h2
 cases d0<;>first|(simp_all [bO];done)|(simp only [bO] at h2;split at h2<;>cases h2)
theorem bH.pointer (h:bH P t d) {e:TypeId} (hu:d.under=.pointer e) (w:World):(underlying t).run P w=.ok (.pointer e) w:=by
 obtain ⟨d0,h1,h2⟩:=h.k8 w
 rw [hu] at h2
 cases d0<;>first|(simp_all [bO];done)|(simp only [bO] at h2;split at h2<;>cases h2)
theorem bH.map (h:bH P t d) {k e:TypeId} (hu:d.under=.map k e) (w:World):(underlying t).run P w=.ok (.map k e) w:=by
 obtain ⟨d0,h1,h2⟩:=h.k8 w
 rw [hu] at h2
 cases d0<;>first|(simp_all [bO];done)|(simp only [bO] at h2;split at h2<;>cases h2)
theorem bH.iface (h:bH P t d) (hu:d.under=.iface) (w:World):∃ms,(underlying t).run P w=.ok (.interface ms) w:=by
 obtain ⟨d0,h1,h2⟩:=h.k8 w
 rw [hu] at h2
 cases d0<;>first|(simp_all [bO];done)|(simp only [bO] at h2;split at h2<;>cases h2)
theorem bH.func (h:bH P t d) (hu:d.under=.func) (w:World):∃a b c,(underlying t).run P w=.ok (.func a b c) w:=by
 obtain ⟨d0,h1,h2⟩:=h.k8 w
 rw [hu] at h2
 cases d0<;>first|(simp_all [bO];done)|(simp only [bO] at h2;split at h2<;>cases h2)
theorem Lt {d0:TypeDesc} {l:List (Nat×TypeId)} (h:bO d0=.struct l):∃fs,d0=.struct fs∧(fs.any fun f=>f.name == "_")=false∧l=fs.toList.map fun f=>(f.offset,f.type):=by
 cases d0 with
 | struct fs =>
  simp only [bO] at h
  cases hn:fs.any fun f=>f.name == "_" with
  | true=>simp only [hn] at h;cases h
  | false=>simp only [hn] at h;cases h;exact ⟨fs,rfl,hn,rfl⟩
 | _=>simp [bO] at h
theorem bH.struct (h:bH P t d) {l:List (Nat×TypeId)} (hu:d.under=.struct l) (w:World):∃fs,(underlying t).run P w=.ok (.struct fs) w∧l=fs.toList.map fun f=>(f.offset,f.type):=by
 obtain ⟨d0,h1,h2⟩:=h.k8 w
 obtain ⟨fs,rfl,_,hl⟩:=Lt (h2.trans hu)
 exact ⟨fs,h1,hl⟩
theorem bH.ix (h:bH P t d) (w:World):(sizeOf t).run P w=.ok d.size w:=by
 obtain ⟨i,hi,hs,_⟩:=h.info
 simp [sizeOf,typeInfo,hi,hs]
theorem bH.ze (h:bH P t d) {z:Value} (hz:d.zero=some z) (w:World):(zeroValue t).run P w=.ok z w:=by
 obtain ⟨i,hi,_,_,h4⟩:=h.info
 simp [zeroValue,typeInfo,hi,h4,hz]
end
structure Cx where
 P:Program
 T:List TD
 n:Nat
 live:List Nat
 r:Option Nat:=none
theorem addr_add (b o n:Nat):(⟨b,o,none⟩:Addr).add n=⟨b,o+n,none⟩:=by
 unfold Addr.add
 split
 ·rename_i h;subst h;rfl
 ·rfl
def kU:jS→Bool
 | .struct _|.array _ _|.blank=>true
 | _=>false
theorem bH.isAgg {P:Program} {t:TypeId} {d:TD} (h:bH P t d) (w:World):(isAgg t).run P w=.ok (kU d.under) w:=by
 obtain ⟨d0,h1,h2⟩:=h.k8 w
 unfold Go.isAgg
 simp only [Sem.run_bind,h1,Result.andThen_ok,←h2]
 cases d0 with
 | struct fs=>simp only [bO];cases (fs.any fun f=>f.name == "_")<;>simp [kU]
 | _=>simp [bO,kU]
def ym (w:World) (b:Nat):Nat→Nat→(List Value→Prop)→Prop
 | 0,_,k=>k []
 | n+1,o,k=>∃v,w.cell? ⟨b,o,none⟩=some v∧ym w b n (o+1) fun l=>k (v::l)
def CE (w:World) (b o n:Nat) (k:List Value→Prop):Prop :=
 ∃l:List Value,l.length=n∧(∀j v,l[j]?=some v→w.cell? ⟨b,o+j,none⟩=some v)∧k l
theorem IV {w:World} {b:Nat}:∀ {n o:Nat} {k:List Value→Prop},ym w b n o k→CE w b o n k
 | 0,o,k,h=>⟨[],rfl,fun j v hj=>by simp at hj,h⟩
 | n+1,o,k,⟨v,hv,h⟩=>by
  obtain ⟨l,hl,hc,hk⟩:=IV h
  refine ⟨v::l,by simp [hl],fun j u hj=>?_,hk⟩
  cases j with
  | zero=>simp at hj;subst hj;exact hv
  | succ j =>
   simp at hj
   have:=hc j u hj
   rw [show o+(j+1)=o+1+j by omega]
   exact this
def od (C:Cx) (t:TypeId) (v:Value) (w:World) (k:Value→World→Prop):Prop :=
 match v with
 | .pointer (some ⟨b,o,none⟩)=>bV C.T t fun d =>
  match kU d.under with
  | true=>(match Nat.ble d.size 16 with
   | true=>ym w b d.size o fun l=>k (.agg l.toArray) w
   | false=>CE w b o d.size fun l=>k (.agg l.toArray) w)
  | false=>∃u,w.cell? ⟨b,o,none⟩=some u∧k u w
 | _=>False
theorem Vr {P:Program} {t:TypeId} {d:TD} (hd:bH P t d) (ha:kU d.under=true) {w:World} {b o:Nat} {l:List Value}
  (hl:l.length=d.size) (hc:∀j v,l[j]?=some v→w.cell? ⟨b,o+j,none⟩=some v):(loadVar t ⟨b,o,none⟩).run P w=.ok (.agg l.toArray) w:=by
 have h1:(isAgg t).run P w=.ok true w:=by rw [hd.isAgg,ha]
 have h2:=run_loadCells_list (P:=P) w ⟨b,o,none⟩ l (fun j v hj=>by rw [addr_add];exact hc j v hj)
 rw [hl] at h2
 simp [loadVar,h1,hd.ix,h2]
theorem Vs {P:Program} {t:TypeId} {d:TD} (hd:bH P t d) (ha:kU d.under=false) {w:World} {a:Addr} {u:Value}
  (hc:w.cell? a=some u):(loadVar t a).run P w=.ok u w:=by
 have h1:(isAgg t).run P w=.ok false w:=by rw [hd.isAgg,ha]
 simp [loadVar,h1,hc]
theorem IX {C:Cx} (hT:aQ C.P C.T) {t:TypeId} {v:Value} {w:World} {k:Value→World→Prop} (h:od C t v w k) :
  ∃a u,v=.pointer (some a)∧(loadVar t a).run C.P w=.ok u w∧k u w:=by
 unfold od at h
 split at h
 ·rename_i b o
  replace h:=di hT h;obtain ⟨d,hd,h⟩:=h
  split at h
  ·rename_i ha
   have h':CE w b o d.size fun l=>k (.agg l.toArray) w:=by
    split at h
    ·exact IV h
    ·exact h
   obtain ⟨l,hl,hc,hk⟩:=h'
   exact ⟨_,_,rfl,Vr hd ha hl hc,hk⟩
  ·rename_i ha
   obtain ⟨u,hu,hk⟩:=h
   exact ⟨_,_,rfl,Vs hd ha hu,hk⟩
 ·exact h.elim
theorem Sj {C:Cx} (hT:aQ C.P C.T) {t:TypeId} {v:Value} {w:World} {k:Value→World→Prop} (h:od C t v w k):aH C.P (Instr.loadAt t v) w k:=by
 obtain ⟨a,u,rfl,hr,hk⟩:=IX hT h
 exact .of (by simp [Instr.loadAt,Instr.sureAddr,hr]) hk
def nF (v:Value) (k:List Value→Prop):Prop:=match v with|.agg ⟨l⟩=>k l|v=>k [v]
theorem tp {v:Value} {k:List Value→Prop} (h:nF v k):k v.cells.toList:=by
 cases v<;>exact h
def yA:List Value→Prop→Prop
 | [],k=>k
 | v::r,k=>match v with|.agg _=>False|.tuple _=>False|_=>yA r k
theorem Jo:∀ {l:List Value} {k:Prop},yA l k→(∀v∈l,v.oneCell'=true)∧k
 | [],_,h=>⟨fun _ h=>by simp at h,h⟩
 | v::r,k,h=>by
  have key:v.oneCell'=true∧yA r k:=by cases v<;>first|exact ⟨rfl,h⟩|exact h.elim
  obtain ⟨h1,h2⟩:=Jo key.2
  refine ⟨fun u hu=>?_,h2⟩
  rcases List.mem_cons.1 hu with rfl|hu
  ·exact key.1
  ·exact h1 u hu
def cW:List Value→Nat→List Value→(List Value→Prop)→Prop
 | c,0,[],k=>k c
 | _::c,0,v::l,k=>cW c 0 l fun r=>k (v::r)
 | u::c,o+1,l,k=>cW c o l fun r=>k (u::r)
 | [],_,_,_=>False
theorem y9:∀ {c:List Value} {o:Nat} {l:List Value} {k:List Value→Prop},cW c o l k→o+l.length≤c.length∧k (c.take o++l++c.drop (o+l.length))
 | c,0,[],k,h=>by
  have h:k c:=by cases c<;>exact h
  exact ⟨ae,by simpa using h⟩
 | u::c,0,v::l,k,h=>by
  obtain ⟨h1,h2⟩:=y9 (c:=c) (o:=0) (l:=l) h
  refine ⟨by simp at h1 ⊢;omega,?_⟩
  simpa [Nat.add_comm] using h2
 | u::c,o+1,l,k,h=>by
  have h':cW c o l fun r=>k (u::r):=by cases l<;>exact h
  obtain ⟨h1,h2⟩:=y9 h'
  refine ⟨by simp;omega,?_⟩
  rw [show o+1+l.length=(o+l.length)+1 by omega]
  simpa using h2
 | [],0,v::l,k,h=>h.elim
 | [],o+1,l,k,h=>by cases l<;>exact h.elim
theorem VK {w:World} {b:Nat} {cs:Array Value} {l:List Value} {t:TypeId} (h:jQ w b cs t):hC w b l t (w.setRow b l.toArray):=by
 obtain ⟨fz,h1,_⟩:=h
 refine ⟨fz,cs,h1,?_⟩
 have hlt:=(Array.getElem?_eq_some_iff.1 h1).1
 have hv:w.heap[b]=.cells cs t fz:=(Array.getElem?_eq_some_iff.1 h1).2
 unfold World.setRow
 congr 1
 apply Array.ext
 ·simp
 ·intro i h1 h2
  by_cases e:b=i
  ·subst e;simp [Array.getElem_modify,hv]
  ·rw [Array.getElem_setIfInBounds (by simpa using h1),Array.getElem_modify,if_neg e,if_neg e]
theorem DH (P:Program) (g o:Nat) (t:TypeId) (fz:Nat×Nat):∀(vs:List Value) (i:Nat) (cur:Array Value) (w:World),w.heap[g]?=some (.cells cur t fz)→s6 fz cur.size→o+i+vs.length≤cur.size→(∀v∈vs,v.oneCell'=true) →
  (storeCells ⟨g,o,none⟩ vs i).run P w=.ok () (w.setRow g (cur.toList.take (o+i)++vs++cur.toList.drop (o+i+vs.length)).toArray)
 | [],i,cur,w,hg,_,_,_=>by
  simp only [storeCells,List.append_nil,List.length_nil,Nat.add_zero,List.take_append_drop,Array.toArray_toList]
  rw [setRow_self w g cur t fz hg]
  rfl
 | v::rest,i,cur,w,hg,BN,hl,h1=>by
  have hi:o+i<cur.size:=by simp at hl;omega
  have P2:(⟨g,o,none⟩:Addr).add i=⟨g,o+i,none⟩:=by unfold Addr.add;split<;>simp_all
  have hcell:w.cell? ⟨g,o+i,none⟩=some cur[o+i]:=by simp [World.cell?,hg,hi]
  have QH:w.frozen? ⟨g,o+i,none⟩=false:=by
   have hz:=BN (o+i) hi
   obtain ⟨lo,pK⟩:=fz
   simp only [World.frozen?,hg,Bool.and_eq_false_iff,decide_eq_false_iff_not]
   simp only at hz
   omega
  have hst:(store ((⟨g,o,none⟩:Addr).add i) v).run P w=.ok () (w.setRow g (cur.setIfInBounds (o+i) v)):=by
   rw [P2,run_store P w _ v _ (h1 v ae),hcell]
   simp [QH,setCell_eq_setRow w g (o+i) cur t fz v hg]
  have ih:=DH P g o t fz rest (i+1) (cur.setIfInBounds (o+i) v) (w.setRow g (cur.setIfInBounds (o+i) v)) (setRow_heap w g cur _ t _ hg) (by simpa using BN) (by simp at hl ⊢;omega) (fun x hx=>h1 x (by simp [hx]))
  simp only [storeCells,Sem.run_bind,hst,Result.andThen_ok,ih,setRow_setRow]
  congr 3
  have e:=list_seg_step cur.toList (o+i) v rest (by simp at hl ⊢;omega)
  simpa [Array.toList_setIfInBounds,Nat.add_assoc] using e
def DV (C:Cx) (t:TypeId) (a v:Value) (w:World) (k:World→Prop):Prop :=
 match a with
 | .pointer (some ⟨b,o,none⟩)=>bV C.T t fun d=>nF v fun l =>
  match Nat.beq l.length d.size with
  | true=>yA l (∃c t',jd w b c t'∧cW c o l fun c'=>∀w',hC w b c' t' w'→k w')
  | false=>False
 | _=>False
theorem Wk {C:Cx} (hT:aQ C.P C.T) {t:TypeId} {a v:Value} {w:World} {k:World→Prop} (h:DV C t a v w k) :
  ∃w',(Instr.storeAt t a v).run C.P w=.ok () w'∧k w':=by
 unfold DV at h
 split at h
 ·rename_i b o
  replace h:=di hT h;obtain ⟨d,hd,h⟩:=h
  replace h:=tp h
  split at h
  ·rename_i hl
   have hl:=Nat.eq_of_beq_eq_true hl
   obtain ⟨h1,c,t',hb,nZ⟩:=Jo h
   obtain ⟨hle,hk⟩:=y9 nZ
   refine ⟨_,?_,hk _ (VK hb)⟩
   obtain ⟨fz,gN,gO⟩:=hb
   have hs:=DH C.P b o t' fz v.cells.toList 0 c.toArray w gN gO (by simpa using hle) h1
   have hsz:v.cells.size=d.size:=by simpa using hl
   simp only [Nat.add_zero] at hs
   simp only [Instr.storeAt,Instr.sureAddr,storeVar,Sem.run_bind,Sem.run_pure,Result.andThen_ok,hd.ix,hsz,ne_eq,not_true,if_false]
   simpa using hs
  ·exact h.elim
 ·exact h.elim
def vY (d:TD) (k:Value→Prop):Prop:=match d.zero with|some z=>k z|none=>False
theorem L9 {d:TD} {k:Value→Prop} (h:vY d k):∃z,d.zero=some z∧k z:=by
 unfold vY at h
 split at h
 ·rename_i z hz;exact ⟨z,hz,h⟩
 ·exact h.elim
def EP (C:Cx) (t:TypeId) (w:World) (k:Value→World→Prop):Prop :=
 bV C.T t fun d=>vY d fun z=>nF z fun l=>∀w' b,kx w b l t w'→k (.pointer (some ⟨b,0,none⟩)) w'
theorem MF {C:Cx} (hT:aQ C.P C.T) {t:TypeId} {w:World} {k:Value→World→Prop} (h:EP C t w k):aH C.P (Instr.alloc t true (.tuple #[])) w k:=by
 replace h:=di hT h;obtain ⟨d,hd,h⟩:=h
 replace h:=L9 h;obtain ⟨z,hz,h⟩:=h
 replace h:=tp h
 refine .of (v:=.pointer (some ⟨w.heap.size,0,none⟩)) (w':=w.alloc (.cells z.cells.toList.toArray t)) ?_ (h _ _ ⟨rfl,rfl⟩)
 simp [Instr.alloc,hd.ze hz,newVar,newRow]
def E1 (t:TypeId) (v:Value) (w:World) (k:Value→World→Prop):Prop :=
 nF v fun l=>∀w' b,kx w b l t w'→k (.pointer (some ⟨b,0,none⟩)) w'
theorem Nc {P:Program} {t:TypeId} {v:Value} {w:World} {k:Value→World→Prop} (h:E1 t v w k):aH P (Instr.box t v) w k:=by
 replace h:=tp h
 refine .of (v:=.pointer (some ⟨w.heap.size,0,none⟩)) (w':=w.alloc (.cells v.cells.toList.toArray t)) ?_ (h _ _ ⟨rfl,rfl⟩)
 simp [Instr.box,newVar,newRow]
def aN (a:Option Addr):Nat:=match a with|some p=>p.block|none=>0
def aI (a:Option Addr):Nat:=match a with|some p=>p.off|none=>0
def Plain (a:Option Addr):Prop:=a=some ⟨aN a,aI a,none⟩
def placeOf (o i s:Nat):Nat:=match s with|1=>o+i|s=>o+i*s
theorem JH (o i s:Nat):placeOf o i s=o+i*s:=by
 unfold placeOf
 split
 ·simp
 ·rfl
def p9 (C:Cx) (t:TypeId) (x i:Value) (w:World) (k:Value→World→Prop):Prop :=
 match i with
 | .int _ i=>bV C.T t fun d =>
  match d.under,x with
  | .slice e,.slice a len _=>bV C.T e fun de=>(0≤i∧i<(len:Int))∧Plain a∧k (.pointer (some ⟨aN a,placeOf (aI a) i.toNat de.size,none⟩)) w
  | .array len e,.pointer (some ⟨b,o,none⟩)=>bV C.T e fun de=>(0≤i∧i<(len:Int))∧k (.pointer (some ⟨b,placeOf o i.toNat de.size,none⟩)) w
  | _,_=>False
 | _=>False
theorem RG {C:Cx} (hT:aQ C.P C.T) {t:TypeId} {x i:Value} {w:World} {k:Value→World→Prop} (h:p9 C t x i w k):aH C.P (Instr.indexAt t x i) w k:=by
 unfold p9 at h
 split at h
 ·rename_i ki i
  replace h:=di hT h;obtain ⟨d,hd,h⟩:=h
  split at h
  ·rename_i e a len cap hu
   replace h:=di hT h;obtain ⟨de,hde,hi,hp,hk⟩:=h
   have bg:=hd.slice hu w
   refine .of ?_ hk
   rw [hp]
   simp [Instr.indexAt,asIntOf,bg,hi,hde.ix,addr_add,JH,aN,aI]
  ·rename_i len e b o hu
   replace h:=di hT h;obtain ⟨de,hde,hi,hk⟩:=h
   have bg:=hd.array hu w
   refine .of ?_ hk
   simp [Instr.indexAt,Instr.sureAddr,asIntOf,bg,hi,hde.ix,addr_add,JH]
  ·exact h.elim
 ·exact h.elim
def rq (C:Cx) (d:jS) (f:Nat) (k:Nat→TypeId→TD→Prop):Prop :=
 match d with
 | .struct fs=>(match fs[f]? with
  | some fl=>bV C.T fl.2 fun df=>k fl.1 fl.2 df
  | none=>False)
 | _=>False
def rl (C:Cx) (t:TypeId) (x:Value) (f:Nat) (w:World) (k:Value→World→Prop):Prop :=
 match x with
 | .pointer (some ⟨b,o,none⟩)=>bV C.T t fun d=>rq C d.under f fun off _ df =>
  match df.size with
  | 0=>False
  | _+1=>k (.pointer (some ⟨b,o+off,none⟩)) w
 | _=>False
theorem GD {C:Cx} (hT:aQ C.P C.T) {t:TypeId} {d:TD} (hd:bH C.P t d) {f:Nat} {k:Nat→TypeId→TD→Prop} (h:rq C d.under f k) (w:World) :
  ∃fs fl df,(underlying t).run C.P w=.ok (.struct fs) w∧fs[f]?=some fl∧bH C.P fl.type df∧k fl.offset fl.type df:=by
 unfold rq at h
 split at h
 ·rename_i l hu
  obtain ⟨fs,hr,rfl⟩:=hd.struct hu w
  split at h
  ·rename_i fl cS
   rw [List.getElem?_map] at cS
   cases hf:fs.toList[f]? with
   | none=>simp [hf] at cS
   | some g =>
    simp only [hf,Option.map_some,Option.some.injEq] at cS
    subst cS
    obtain ⟨df,hdf,hk⟩:=di hT h
    exact ⟨fs,g,df,hr,by simpa using hf,hdf,hk⟩
  ·exact h.elim
 ·exact h.elim
theorem O8 {C:Cx} (hT:aQ C.P C.T) {t:TypeId} {x:Value} {f:Nat} {w:World} {k:Value→World→Prop} (h:rl C t x f w k):aH C.P (Instr.fieldAt t x f) w k:=by
 unfold rl at h
 split at h
 ·rename_i b o
  replace h:=di hT h;obtain ⟨d,hd,h⟩:=h
  replace h:=GD hT hd h w;obtain ⟨fs,fl,df,bg,cS,hdf,hk⟩:=h
  split at hk
  ·exact hk.elim
  ·rename_i m hm
   refine .of ?_ hk
   simp [Instr.fieldAt,Instr.sureAddr,bg,cS,fieldPlace,hdf.ix,hm,addr_add]
 ·exact h.elim
def sf (d:TD) (off:Nat) (l:List Value) (k:Value→Prop):Prop :=
 match kU d.under with
 | true=>k (.agg ((l.drop off).take d.size).toArray)
 | false=>(match l[off]? with|some v=>k v|none=>False)
def ru (C:Cx) (t:TypeId) (x:Value) (f:Nat) (w:World) (k:Value→World→Prop):Prop :=
 match x with
 | .agg ⟨l⟩=>bV C.T t fun d=>rq C d.under f fun off _ df=>sf df off l fun v=>k v w
 | _=>False
theorem Jy {P:Program} {t:TypeId} {d:TD} (hd:bH P t d) {off:Nat} {l:List Value} {w:World} {k:Value→Prop} (h:sf d off l k) :
  ∃v,(part t ⟨l⟩ off).run P w=.ok v w∧k v:=by
 unfold sf at h
 split at h
 ·rename_i ha
  have h1:(isAgg t).run P w=.ok true w:=by rw [hd.isAgg,ha]
  refine ⟨_,?_,h⟩
  simp only [part,Sem.run_bind,h1,Result.andThen_ok,if_true,hd.ix,Sem.run_pure]
  congr 2
  apply Array.ext'
  simp
 ·rename_i ha
  have h1:(isAgg t).run P w=.ok false w:=by rw [hd.isAgg,ha]
  split at h
  ·rename_i v hv
   refine ⟨v,?_,h⟩
   have hv':(⟨l⟩:Array Value)[off]?=some v:=by simpa using hv
   simp [part,h1,hv']
  ·exact h.elim
theorem Pa {C:Cx} (hT:aQ C.P C.T) {t:TypeId} {x:Value} {f:Nat} {w:World} {k:Value→World→Prop} (h:ru C t x f w k):aH C.P (Instr.field t x f) w k:=by
 unfold ru at h
 split at h
 ·rename_i l
  replace h:=di hT h;obtain ⟨d,hd,h⟩:=h
  replace h:=GD hT hd h w;obtain ⟨fs,fl,df,bg,cS,hdf,hk⟩:=h
  obtain ⟨v,hr,hk⟩:=Jy (w:=w) hdf hk
  refine .of ?_ hk
  simp [Instr.field,bg,cS,asAgg,hr]
 ·exact h.elim
def qa (C:Cx) (t:TypeId) (x i:Value) (w:World) (k:Value→World→Prop):Prop :=
 match i with
 | .int _ i=>bV C.T t fun d =>
  match d.under,x with
  | .string,.string ⟨⟨l⟩⟩=>0≤i∧∃c:UInt8,l[i.toNat]?=some c∧k (.int .u8 (c.toNat:Int)) w
  | .array len e,.agg ⟨l⟩=>bV C.T e fun de=>(0≤i∧i<(len:Int))∧sf de (i.toNat*de.size) l fun v=>k v w
  | _,_=>False
 | _=>False
theorem RP {C:Cx} (hT:aQ C.P C.T) {t:TypeId} {x i:Value} {w:World} {k:Value→World→Prop} (h:qa C t x i w k):aH C.P (Instr.index t x i) w k:=by
 unfold qa at h
 split at h
 ·rename_i ki i
  replace h:=di hT h;obtain ⟨d,hd,h⟩:=h
  split at h
  ·rename_i l hu
   obtain ⟨hi,c,hc,hk⟩:=h
   have bg:=hd.string hu w
   have hc':(ByteArray.mk ⟨l⟩)[i.toNat]?=some c:=by
    have hlt:i.toNat<l.length:=(List.getElem?_eq_some_iff.1 hc).1
    have jw:i.toNat<(ByteArray.mk ⟨l⟩).size:=hlt
    rw [ByteArray.getElem?_lt' _ _ jw]
    have:=(List.getElem?_eq_some_iff.1 hc).2
    exact congrArg some this
   refine .of ?_ hk
   simp [Instr.index,asIntOf,bg,hi,hc']
  ·rename_i len e l hu
   replace h:=di hT h;obtain ⟨de,hde,hi,hk⟩:=h
   have bg:=hd.array hu w
   obtain ⟨v,hr,hk⟩:=Jy (w:=w) hde hk
   refine .of ?_ hk
   simp [Instr.index,asIntOf,bg,hi,hde.ix,hr]
  ·exact h.elim
 ·exact h.elim
def jA:List Value→Nat→(Value→Prop)→Prop
 | [],_,_=>False
 | v::_,0,k=>k v
 | _::r,i+1,k=>jA r i k
theorem u4 {l:List Value} {i:Nat} {k:Value→Prop}:jA l i k↔∃v,l[i]?=some v∧k v:=by
 induction l generalizing i with
 | nil=>simp [jA]
 | cons d r ih =>
  cases i with
  | zero=>simp [jA]
  | succ t=>simp only [jA,List.getElem?_cons_succ];exact ih
def tI (x:Value) (i:Nat) (w:World) (k:Value→World→Prop):Prop :=
 match x with
 | .tuple ⟨l⟩=>jA l i fun v=>k v w
 | _=>False
theorem O5 {P:Program} {x:Value} {i:Nat} {w:World} {k:Value→World→Prop} (h:tI x i w k):aH P (Instr.extract x i) w k:=by
 unfold tI at h
 split at h
 ·rename_i l
  obtain ⟨v,hv,hk⟩:=u4.1 h
  have hv':(⟨l⟩:Array Value)[i]?=some v:=by simpa using hv
  refine .of ?_ hk
  simp [Instr.extract,hv']
 ·exact h.elim
abbrev bI (x:Int):Prop := -9223372036854775808≤x∧x≤9223372036854775807
def wr (k:IntKind) (x:Int):Int :=
 match k with
 | .u8=>x%256|.u16=>x%65536|.u32=>x%4294967296|.u64=>x%18446744073709551616
 | k=>k.wrap x
theorem EB (k:IntKind) (x:Int):wr k x=k.wrap x:=by
 cases k<;>simp [wr,IntKind.wrap,IntKind.bits,IntKind.signed]
theorem wrap_i64 {x:Int} (h:bI x):IntKind.i64.wrap x=x:=by
 obtain ⟨h1,h2⟩:=h
 have key:∀m p:Int,m=18446744073709551616→p=9223372036854775808→(if (true&&decide (x%m≥p))=true then x%m - m else x%m)=x:=by
  rintro m p rfl rfl
  simp only [Bool.true_and,ge_iff_le,decide_eq_true_eq]
  split<;>omega
 exact key (2 ^ 64) (2 ^ 63) ag ag
def jY (k:IntKind) (x:Int) (c:Value→Prop):Prop :=
 match k with
 | .i64=>bI x∧c (.int .i64 x)
 | k=>c (.int k (wr k x))
theorem mu {k:IntKind} {x:Int} {c:Value→Prop} (h:jY k x c):c (.int k (k.wrap x)):=by
 cases k<;>first
  | (rw [←EB];exact h)
  | (rw [wrap_i64 h.1];exact h.2)
def aV (op:BinOp) (k:IntKind) (x y:Int):Int :=
 let a:=BitVec.ofInt k.bits x
 let b:=BitVec.ofInt k.bits y
 k.wrap (match op with
  | .and=>a &&& b
  | .or=>a ||| b
  | .xor=>a ^^^ b
  | _=>a &&& ~~~b).toNat
def kT (op:BinOp) (k:IntKind) (x y:Int) (c:Value→Prop):Prop :=
 match op with
 | .add=>jY k (x+y) c
 | .sub=>jY k (x - y) c
 | .mul=>jY k (x*y) c
 | .quo=>((0≤x∧0<y)∧jY k (x / y) c)∨(0<y∧jY k (x.tdiv y) c)
 | .rem=>((0≤x∧0<y)∧c (.int k (x%y)))∨(0<y∧c (.int k (x.tmod y)))
 | .and=>c (.int k (aV .and k x y))
 | .or=>c (.int k (aV .or k x y))
 | .xor=>c (.int k (aV .xor k x y))
 | .andNot=>c (.int k (aV .andNot k x y))
 | .eql=>c (.bool (decide (x=y)))
 | .neq=>c (.bool (decide (x≠y)))
 | .lss=>c (.bool (decide (x<y)))
 | .leq=>c (.bool (decide (x≤y)))
 | .gtr=>c (.bool (decide (y<x)))
 | .geq=>c (.bool (decide (y≤x)))
 | .shl=>(0≤y∧y≤64)∧jY k (x*2 ^ (min y.toNat k.bits)) c
 | .shr=>(0≤y∧y≤64)∧c (.int k (x / 2 ^ (min y.toNat k.bits)))
theorem RT {P:Program} {op:BinOp} {k:IntKind} {t:TypeId} {x y:Int} {w:World} {c:Value→World→Prop} (h:kT op k x y fun v=>c v w) :
  aH P (binOp op t (.int k x) (.int k y)) w c:=by
 cases op
 case add=>exact .of (v:=.int k (k.wrap (x+y))) (w':=w) (by simp [binOp,Op.intArith]) (mu (k:=k) (x:=x+y) (c:=fun v=>c v w) h)
 case sub=>exact .of (v:=.int k (k.wrap (x - y))) (w':=w) (by simp [binOp,Op.intArith]) (mu (k:=k) (x:=x - y) (c:=fun v=>c v w) h)
 case mul=>exact .of (v:=.int k (k.wrap (x*y))) (w':=w) (by simp [binOp,Op.intArith]) (mu (k:=k) (x:=x*y) (c:=fun v=>c v w) h)
 case quo =>
  rcases h with ⟨⟨h1,h2⟩,h⟩|⟨h2,h⟩
  rotate_left
  ·exact .of (v:=.int k (k.wrap (x.tdiv y))) (w':=w) (by simp [binOp,Op.intDiv,show y≠0 by omega]) (mu (k:=k) (x:=x.tdiv y) (c:=fun v=>c v w) h)
  have e:x.tdiv y=x / y:=Int.tdiv_eq_ediv_of_nonneg h1
  exact .of (v:=.int k (k.wrap (x.tdiv y))) (w':=w) (by simp [binOp,Op.intDiv,show y≠0 by omega]) (by rw [e];exact mu (k:=k) (x:=x / y) (c:=fun v=>c v w) h)
 case rem =>
  rcases h with ⟨⟨h1,h2⟩,h⟩|⟨h2,h⟩
  rotate_left
  ·exact .of (v:=.int k (x.tmod y)) (w':=w) (by simp [binOp,Op.intDiv,show y≠0 by omega]) h
  have e:x.tmod y=x%y:=Int.tmod_eq_emod_of_nonneg h1
  exact .of (v:=.int k (x.tmod y)) (w':=w) (by simp [binOp,Op.intDiv,show y≠0 by omega]) (by rw [e];exact h)
 case and=>exact .of (v:=.int k (aV .and k x y)) (w':=w) (by simp [binOp,Op.intBits,aV]) h
 case or=>exact .of (v:=.int k (aV .or k x y)) (w':=w) (by simp [binOp,Op.intBits,aV]) h
 case xor=>exact .of (v:=.int k (aV .xor k x y)) (w':=w) (by simp [binOp,Op.intBits,aV]) h
 case andNot=>exact .of (v:=.int k (aV .andNot k x y)) (w':=w) (by simp [binOp,Op.intBits,aV]) h
 case eql=>exact .of (v:=.bool (decide (x=y))) (w':=w) (by simp [binOp,Op.intCmp];by_cases e:x=y<;>simp [e]) h
 case neq=>exact .of (v:=.bool (decide (x≠y))) (w':=w) (by simp [binOp,Op.intCmp];by_cases e:x=y<;>simp [e]) h
 case lss=>exact .of (v:=.bool (decide (x<y))) (w':=w) (by simp [binOp,Op.intCmp]) h
 case leq=>exact .of (v:=.bool (decide (x≤y))) (w':=w) (by simp [binOp,Op.intCmp]) h
 case gtr=>exact .of (v:=.bool (decide (y<x))) (w':=w) (by simp [binOp,Op.intCmp]) h
 case geq=>exact .of (v:=.bool (decide (y≤x))) (w':=w) (by simp [binOp,Op.intCmp]) h
 case shl =>
  obtain ⟨h1,h⟩:=h
  exact .of (v:=.int k (k.wrap (x*2 ^ (min y.toNat k.bits)))) (w':=w) (by simp [binOp,Op.shift,show ¬y<0 by omega]) (mu (k:=k) (c:=fun v=>c v w) h)
 case shr =>
  obtain ⟨h1,h⟩:=h
  refine .of (v:=.int k (x.fdiv (2 ^ (min y.toNat k.bits)))) (w':=w) (by simp [binOp,Op.shift,show ¬y<0 by omega]) ?_
  rw [Int.fdiv_eq_ediv_of_nonneg _ (Int.pow_nonneg ag)]
  exact h
def aD (a:Option Addr) (l m size:Nat):Option Addr:=if m=l then a else a.map fun p=>p.add (l*size)
theorem Wr (l m size:Nat):aD none l m size=none:=by unfold aD;split<;>rfl
theorem qy {a:Option Addr} (h:Plain a) {l m size:Nat}:Plain (aD a l m size):=by
 unfold aD
 split
 ·exact h
 ·rw [h];simp [Plain,aN,aI,addr_add]
theorem qw {a:Option Addr} {l m size:Nat}:aN (aD a l m size)=aN a:=by
 unfold aD
 split
 ·rfl
 ·cases a with
  | none=>rfl
  | some p=>simp only [Option.map_some,aN,Addr.add];split<;>rfl
theorem qx {a:Option Addr} (h:Plain a) {l m size:Nat} (hm:m≠l):aI (aD a l m size)=aI a+l*size:=by
 unfold aD
 rw [if_neg hm,h]
 simp [aI,addr_add]
def gI (x:Option Value) (dflt:Nat) (most:Nat) (k:Nat→Prop):Prop :=
 match x with
 | none=>k dflt
 | some (.int _ i)=>(0≤i∧i≤(most:Int))∧k i.toNat
 | _=>False
theorem qX {P:Program} {v:Value} {y d:Nat} {k:Nat→Prop} {code:BoundsCode} {w:World} (h:gI (some v) d y k):∃n,n≤y∧(Instr.sliceBound v y code).run P w=.ok n w∧k n:=by
 unfold gI at h
 split at h
 ·rename_i hx;cases hx
 ·rename_i q i hx
  cases hx
  exact ⟨i.toNat,aa,by simp [Instr.sliceBound,asIntOf,h.1],h.2⟩
 ·exact h.elim
def oF (C:Cx) (t:TypeId) (x:Value) (lo hi mx:Option Value) (w:World) (k:Value→World→Prop):Prop :=
 bV C.T t fun d=>match d.under,x with
  | .string,.string ⟨⟨b⟩⟩=>(match mx with
   | none=>gI hi b.length b.length fun h=>gI lo 0 h fun l=>k (.string ⟨⟨(b.take h).drop l⟩⟩) w
   | some _=>False)
  | .slice e,.slice a len cap=>bV C.T e fun de=>(match mx with
   | none=>gI hi len cap fun h=>gI lo 0 h fun l=>(l≤h)∧k (.slice (aD a l cap de.size) (h - l) (cap - l)) w
   | some mx=>gI (some mx) cap cap fun m=>(match hi with
    | some hi=>gI (some hi) len m fun h=>gI lo 0 h fun l=>k (.slice (aD a l m de.size) (h - l) (m - l)) w
    | none=>False))
  | .array n e,.pointer (some ⟨b,o,none⟩)=>bV C.T e fun de=>(match mx with
   | none=>gI hi n n fun h=>gI lo 0 h fun l=>k (.slice (aD (some ⟨b,o,none⟩) l n de.size) (h - l) (n - l)) w
   | some _=>False)
  | _,_=>False
theorem DG {P:Program} {isS:Bool} {len cap:Nat} {lo hi:Option Value} {k:Nat→Nat→Prop} {w:World}
  (h:gI hi len cap fun h=>gI lo 0 h fun l=>k l h):∃l h,(Instr.sliceBounds isS len cap lo hi none).run P w=.ok (l,h,cap) w∧k l h:=by
 cases hi with
 | none =>
  cases lo with
  | none=>exact ⟨0,len,by simp [Instr.sliceBounds],h⟩
  | some v =>
   have h:gI (some v) 0 len fun l=>k l len:=h
   obtain ⟨l,hle,hr,hk⟩:=qX (P:=P) (w:=w) (code:=.sliceB) (d:=0) h
   exact ⟨l,len,by simp [Instr.sliceBounds,hr],hk⟩
 | some u =>
  obtain ⟨m,hle,hr,h⟩:=qX (P:=P) (w:=w) (code:=if isS then .sliceAcap else .sliceAlen) (d:=len) h
  cases lo with
  | none=>exact ⟨0,m,by simp [Instr.sliceBounds,hr],h⟩
  | some v =>
   obtain ⟨l,hle,hr',hk⟩:=qX (P:=P) (w:=w) (code:=.sliceB) (d:=0) h
   exact ⟨l,m,by simp [Instr.sliceBounds,hr,hr'],hk⟩
theorem VR {C:Cx} (hT:aQ C.P C.T) {t:TypeId} {x:Value} {lo hi mx:Option Value} {w:World} {k:Value→World→Prop} (h:oF C t x lo hi mx w k) :
  aH C.P (Instr.sliceAt t x lo hi mx) w k:=by
 replace h:=di hT h;obtain ⟨d,hd,h⟩:=h
 split at h
 ·rename_i b hu
  have bg:=hd.string hu w
  split at h
  ·obtain ⟨l,h',hr,hk⟩:=DG (P:=C.P) (isS:=false) (w:=w) (k:=fun l h=>k (.string ⟨⟨(b.take h).drop l⟩⟩) w) h
   refine .of (v:=.string ⟨⟨(b.take h').drop l⟩⟩) (w':=w) ?_ hk
   have hsz:(ByteArray.mk ⟨b⟩).size=b.length:=rfl
   have hex:(ByteArray.mk ⟨b⟩).extract l h'=⟨⟨(b.take h').drop l⟩⟩:=by
    have:=ByteArray.extract_mk b l h'
    rw [List.drop_take]
    exact this
   simp only [Instr.sliceAt,Instr.slice,Sem.run_bind,bg,Result.andThen_ok,hsz,hr,Option.isSome_none,Bool.false_eq_true,if_false,Sem.run_pure,hex]
  ·exact h.elim
 ·rename_i e a len cap hu
  have bg:=hd.slice hu w
  replace h:=di hT h;obtain ⟨de,hde,h⟩:=h
  split at h
  ·obtain ⟨l,h',hr,hle,hk⟩:=DG (P:=C.P) (isS:=true) (w:=w) (k:=fun l h=>l≤h∧k (.slice (aD a l cap de.size) (h - l) (cap - l)) w) h
   refine .of ?_ hk
   simp [Instr.sliceAt,Instr.slice,bg,hr,hde.ix,aD]
  ·rename_i mx
   obtain ⟨m,_,gy,h⟩:=qX (P:=C.P) (w:=w) (code:=.slice3Acap) h
   split at h
   ·rename_i hi
    obtain ⟨h',_,hr1,h⟩:=qX (P:=C.P) (w:=w) (code:=.slice3B) h
    cases lo with
    | none =>
     refine .of (v:=.slice (aD a 0 m de.size) (h' - 0) (m - 0)) (w':=w) ?_ h
     simp [Instr.sliceAt,Instr.slice,Instr.sliceBounds,bg,gy,hr1,hde.ix,aD]
    | some v =>
     obtain ⟨l,_,hr2,hk⟩:=qX (P:=C.P) (w:=w) (code:=.slice3C) h
     refine .of ?_ hk
     simp [Instr.sliceAt,Instr.slice,Instr.sliceBounds,bg,gy,hr1,hr2,hde.ix,aD]
   ·exact h.elim
 ·rename_i n e b o hu
  have bg:=hd.array hu w
  replace h:=di hT h;obtain ⟨de,hde,h⟩:=h
  split at h
  ·obtain ⟨l,h',hr,hk⟩:=DG (P:=C.P) (isS:=false) (w:=w) (k:=fun l h=>k (.slice (aD (some ⟨b,o,none⟩) l n de.size) (h - l) (n - l)) w) h
   refine .of ?_ hk
   simp only [Instr.sliceAt,Instr.sureAddr,Sem.run_bind,bg,hr,hde.ix,Result.andThen_ok,Sem.run_pure,aD]
   split<;>rfl
  ·exact h.elim
 ·exact h.elim
def pn (C:Cx) (fs:List (Nat×TypeId)):List (Nat×Value)→List Value→(List Value→Prop)→Prop
 | [],c,k=>k c
 | (i,v)::r,c,k=>match fs[i]? with
  | some f=>bV C.T f.2 fun df=>nF v fun l=>(match Nat.beq l.length df.size with
   | true=>cW c f.1 l fun c'=>pn C fs r c' k
   | false=>False)
  | none=>False
theorem GX (off:Nat):∀(l:List Value) (k:Nat) (acc:Array Value),off+k+l.length≤acc.size →
  ((l.zipIdx k).foldl (fun cs p=>cs.setIfInBounds (off+p.2) p.1) acc).toList=acc.toList.take (off+k)++l++acc.toList.drop (off+k+l.length)
 | [],k,acc,_=>by simp
 | v::l,k,acc,h=>by
  simp only [List.length_cons] at h
  rw [List.zipIdx_cons,List.foldl_cons,GX off l (k+1) _ (by simp;omega)]
  have hlt:off+k<acc.toList.length:=by simp;omega
  simp only [Array.toList_setIfInBounds,List.set_eq_take_append_cons_drop,hlt,if_true]
  generalize hA:acc.toList=A at hlt ⊢
  have key:∀(p q:List Value) (n m:Nat),p.length=n→(p++v::q).take (n+1)=p++[v]∧(p++v::q).drop (n+1+m)=q.drop m:=by
   rintro p q n m rfl
   refine ⟨by rw [List.take_append,List.take_of_length_le aa];simp,?_⟩
   rw [List.drop_append,List.drop_of_length_le aa,show p.length+1+m - p.length=m+1 by omega]
   simp
  obtain ⟨k1,k2⟩:=key (A.take (off+k)) (A.drop (off+k+1)) (off+k) l.length (by simp;omega)
  rw [show off+(k+1)=off+k+1 by omega,k1,k2,List.drop_drop]
  simp only [List.append_assoc,List.cons_append,List.nil_append,List.length_cons]
  rw [show off+k+1+l.length=off+k+(l.length+1) by omega]
theorem Kk {places:Nat→Option (Nat×Nat)} {c:List Value} {i off size:Nat} {v:Value} {r:List (Nat×Value)} (hp:places i=some (off,size)) (hs:v.cells.size=size) (hle:off+v.cells.size≤c.length) :
  Instr.fill places ⟨c⟩ ((i,v)::r)=Instr.fill places ⟨c.take off++v.cells.toList++c.drop (off+v.cells.toList.length)⟩ r:=by
 have h1:¬(v.cells.size≠size):=by simp [hs]
 have h2:¬(off+v.cells.size>c.length):=aa
 have key:=GX off v.cells.toList 0 ⟨c⟩ (by simpa using hle)
 simp only [Nat.add_zero] at key
 have e:(v.cells.zipIdx.foldl (fun cs (p:Value×Nat)=>cs.setIfInBounds (off+p.2) p.1) (⟨c⟩:Array Value))=⟨c.take off++v.cells.toList++c.drop (off+v.cells.toList.length)⟩:=by
  apply Array.ext'
  rw [←Array.foldl_toList,Array.toList_zipIdx]
  exact key
 simp only [Instr.fill,hp]
 rw [if_neg (by simp [hs];simpa [hs] using hle)]
 rw [←e]
theorem GH {C:Cx} (hT:aQ C.P C.T) {fs:List (Nat×TypeId)} {places:Array (Nat×Nat)}
  (hpl:∀(i:Nat) (f:Nat×TypeId),fs[i]?=some f→∀df,bH C.P f.2 df→places[i]?=some (f.1,df.size)):∀ {ps:List (Nat×Value)} {c:List Value} {k:List Value→Prop},pn C fs ps c k →
  ∃c',Instr.fill (places[·]?) ⟨c⟩ ps=some ⟨c'⟩∧k c'
 | [],c,k,h=>⟨c,rfl,h⟩
 | (i,v)::r,c,k,h=>by
  simp only [pn] at h
  split at h
  ·rename_i f hf
   replace h:=di hT h;obtain ⟨df,hdf,h⟩:=h
   replace h:=tp h
   split at h
   ·rename_i hl
    have hl:=Nat.eq_of_beq_eq_true hl
    obtain ⟨hle,h⟩:=y9 h
    obtain ⟨c',h1,h2⟩:=GH hT hpl h
    refine ⟨c',?_,h2⟩
    rw [Kk (hpl i f hf df hdf) (by simpa using hl) (by simpa using hle)]
    exact h1
   ·exact h.elim
  ·exact h.elim
theorem run_places {C:Cx} {w:World}:∀(fs:List Field),(∀f∈fs,∃df,bH C.P f.type df) →
  ∃l:List (Nat×Nat),((fs.mapM fun f=>do pure (f.offset,←sizeOf f.type):Sem (List (Nat×Nat)))).run C.P w=.ok l w ∧
   ∀(i:Nat) (f:Field),fs[i]?=some f→∀df,bH C.P f.type df→l[i]?=some (f.offset,df.size)
 | [],_=>⟨[],ae,ae⟩
 | f::fs,h=>by
  obtain ⟨df,hdf⟩:=h f ae
  obtain ⟨l,hl,hi⟩:=run_places (w:=w) fs (fun g hg=>h g (by simp [hg]))
  refine ⟨(f.offset,df.size)::l,by rw [List.mapM_cons];simp only [Sem.run_bind,hdf.ix,Result.andThen_ok,Sem.run_pure,hl],?_⟩
  intro i g hg dg eA
  cases i with
  | zero =>
   simp at hg
   subst hg
   have h1:=hdf.ix w
   have h2:=eA.ix w
   rw [h1] at h2
   simp only [Result.ok.injEq,and_true] at h2
   simp [h2]
  | succ i=>simp at hg ⊢;exact hi i g hg dg eA
def wi (C:Cx):List (Nat×TypeId)→Prop→Prop
 | [],k=>k
 | f::r,k=>bV C.T f.2 fun _=>wi C r k
theorem EN {C:Cx} (hT:aQ C.P C.T):∀ {fs:List (Nat×TypeId)} {k:Prop},wi C fs k→(∀f∈fs,∃df,bH C.P f.2 df)∧k
 | [],_,h=>⟨ae,h⟩
 | f::r,k,h=>by
  obtain ⟨d,hd,h⟩:=di hT h
  obtain ⟨h1,h2⟩:=EN hT h
  exact ⟨fun g hg=>(List.mem_cons.1 hg).elim (fun e=>e ▸ ⟨d,hd⟩) (fun hg=>h1 g hg),h2⟩
def tj (C:Cx) (t:TypeId) (ps:List (Nat×Value)) (w:World) (k:Value→World→Prop):Prop :=
 bV C.T t fun d=>vY d fun z=>(match d.under,z with
  | .struct fs,.agg ⟨c⟩=>wi C fs (pn C fs ps c fun c'=>k (.agg ⟨c'⟩) w)
  | .array _ _,_=>aH C.P (Instr.build t ps.toArray) w k
  | _,_=>False)
theorem Nf {C:Cx} (hT:aQ C.P C.T) {t:TypeId} {ps:List (Nat×Value)} {w:World} {k:Value→World→Prop} (h:tj C t ps w k):aH C.P (Instr.build t ps.toArray) w k:=by
 replace h:=di hT h;obtain ⟨d,hd,h⟩:=h
 replace h:=L9 h;obtain ⟨z,hz,h⟩:=h
 split at h
 ·rename_i fs c hu
  obtain ⟨pt,bg,rfl⟩:=hd.struct hu w
  obtain ⟨hall,h⟩:=EN hT h
  obtain ⟨l,hl,hi⟩:=run_places (C:=C) (w:=w) pt.toList (fun f hf=>hall (f.offset,f.type) (List.mem_map.2 ⟨f,hf,rfl⟩))
  obtain ⟨c',hc,hk⟩:=GH hT (places:=l.toArray) (fun i f hf df hdf=>by
   rw [List.getElem?_map] at hf
   cases hg:pt.toList[i]? with
   | none=>simp [hg] at hf
   | some g =>
    simp only [hg,Option.map_some,Option.some.injEq] at hf
    subst hf
    simpa using hi i g hg df hdf) h
  refine .of (v:=.agg ⟨c'⟩) (w':=w) ?_ hk
  simp only [Instr.build,Sem.run_bind,hd.ze hz,Result.andThen_ok,bg]
  rw [←Array.toArray_toList (xs:=pt),Array.mapM_eq_mapM_toList]
  simp only [Sem.run_map,hl,Result.andThen_ok,Value.cells,hc,Sem.run_pure]
 ·exact h
 ·exact h.elim
def wA (sz:Nat):Nat→List (Nat×Value)→(List Value→Prop)→Prop
 | _,[],k=>k []
 | i,(j,v)::r,k=>match Nat.beq i j with
  | true=>nF v fun l=>(match Nat.beq l.length sz with
   | true=>wA sz (i+1) r fun m=>(match l with|[u]=>k (u::m)|l=>k (l++m))
   | false=>False)
  | false=>False
theorem E3 {sz n:Nat}:∀ {ps:List (Nat×Value)} {i:Nat} {c:List Value} {k:List Value→Prop},c.length=n*sz→ps.length+i=n→wA sz i ps k →
  ∃l,l.length=ps.length*sz∧Instr.fill (fun i=>some (i*sz,sz)) ⟨c⟩ ps=some ⟨c.take (i*sz)++l⟩∧k l
 | [],i,c,k,hc,hn,h=>⟨[],ae,by simp at hn;subst hn;simp [Instr.fill,←hc],h⟩
 | (j,v)::r,i,c,k,hc,hn,h=>by
  simp only [wA] at h
  split at h
  ·rename_i pN
   have pN:=Nat.eq_of_beq_eq_true pN
   subst pN
   replace h:=tp h
   split at h
   ·rename_i hl
    have hl:v.cells.size=sz:=by simpa using Nat.eq_of_beq_eq_true hl
    simp only [List.length_cons] at hn
    have hle:i*sz+v.cells.size≤c.length:=by
     rw [hc,hl,←Nat.succ_mul]
     exact Nat.mul_le_mul_right _ aa
    have x5:v.cells.toList.length=sz:=by simpa using hl
    have hc':(c.take (i*sz)++v.cells.toList++c.drop (i*sz+v.cells.toList.length)).length=n*sz:=by
     simp only [List.length_append,List.length_take,List.length_drop,x5]
     omega
    obtain ⟨l,h1,h2,h3⟩:=E3 hc' aa h
    refine ⟨v.cells.toList++l,by simp [x5,h1,Nat.succ_mul,Nat.add_comm],?_,?_⟩
    ·rw [Kk (off:=i*sz) (size:=sz) rfl hl hle,h2]
     have:(c.take (i*sz)++v.cells.toList++c.drop (i*sz+v.cells.toList.length)).take ((i+1)*sz)=c.take (i*sz)++v.cells.toList:=by
      rw [List.take_append_of_le_length (by simp [hl,Nat.succ_mul];omega),List.take_of_length_le (by simp [hl,Nat.succ_mul];omega)]
     rw [this,List.append_assoc]
    ·revert h3
     generalize v.cells.toList=q
     intro h3
     split at h3
     ·exact h3
     ·exact h3
   ·exact h.elim
  ·exact h.elim
def E4 (C:Cx) (t:TypeId) (n:Nat) (ps:List (Nat×Value)) (w:World) (k:Value→World→Prop):Prop :=
 bV C.T t fun d=>match d.under with
  | .slice e=>bV C.T e fun de=>(match Nat.ble (n*de.size) 16777216,Nat.beq ps.length n,de.zero with
   | true,true,some z=>(match Nat.beq z.cells.size de.size with
    | true=>wA de.size 0 ps fun l=>∀w' b,kx w b l e w'→k (.slice (some ⟨b,0,none⟩) n n) w'
    | false=>False)
   | _,false,_=>aH C.P (Instr.buildSlice t n ps.toArray) w k
   | _,_,_=>False)
  | _=>False
theorem Nd {C:Cx} (hT:aQ C.P C.T) {t:TypeId} {n:Nat} {ps:List (Nat×Value)} {w:World} {k:Value→World→Prop} (h:E4 C t n ps w k):aH C.P (Instr.buildSlice t n ps.toArray) w k:=by
 replace h:=di hT h;obtain ⟨d,hd,h⟩:=h
 split at h
 ·rename_i e hu
  have bg:=hd.slice hu w
  replace h:=di hT h;obtain ⟨de,hde,h⟩:=h
  split at h
  ·rename_i z h1 h2 hz
   split at h
   ·rename_i hzs
    have h1:=Nat.le_of_ble_eq_true h1
    have h2:=Nat.eq_of_beq_eq_true h2
    have hn:¬(n*de.size>2 ^ 24):=aa
    have base:∀q:Array Value,((Array.range (n*de.size)).map (q[·%q.size]!)).toList.length=n*de.size:=ae
    obtain ⟨Z,hZ⟩:∃Z:Array Value,((if n*de.size=0 then pure #[] else do pure (←zeroValue e).cells:Sem (Array Value))).run C.P w=.ok Z w:=by
     by_cases mQ:n*de.size=0
     ·exact ⟨#[],by simp [mQ]⟩
     ·exact ⟨z.cells,by rw [if_neg mQ];simp [hde.ze hz]⟩
    obtain ⟨l,g1,g2,g3⟩:=E3 (n:=n) (c:=((Array.range (n*de.size)).map (Z[·%Z.size]!)).toList) (base _) aa h
    simp only [Nat.zero_mul,List.take_zero,List.nil_append] at g2
    have G0:Instr.fill (fun i=>some (i*de.size,de.size)) ((Array.range (n*de.size)).map (Z[·%Z.size]!)) ps=some ⟨l⟩:=g2
    refine .of (v:=.slice (some ⟨w.heap.size,0,none⟩) n n) (w':=w.alloc (.cells l.toArray e)) ?_ (g3 _ _ ⟨rfl,rfl⟩)
    unfold Instr.buildSlice
    simp only [Sem.run_bind,bg,Result.andThen_ok,hde.ix,hn,if_false]
    by_cases mQ:n*de.size=0
    ·rw [if_pos mQ] at hZ ⊢
     simp only [Sem.run_pure,Result.ok.injEq,and_true] at hZ
     subst hZ
     simp only [Sem.run_bind,Sem.run_pure,Result.andThen_ok,G0]
     simp [newRow]
    ·rw [if_neg mQ] at hZ ⊢
     simp only [Sem.run_bind,hde.ze hz,Sem.run_pure,Result.andThen_ok,Result.ok.injEq,and_true] at hZ ⊢
     subst hZ
     simp only [G0]
     simp [newRow]
   ·exact h.elim
  ·exact h
  ·exact h.elim
 ·exact h.elim
def Cells (w:World) (a:Option Addr) (l:List Value):Prop :=
 (l≠[]→Plain a)∧∀j v,l[j]?=some v→w.cell? ⟨aN a,aI a+j,none⟩=some v
theorem Cells.ext {w w':World} {a:Option Addr} {l:List Value} (h:Cells w a l) (he:Ext w w'):Cells w' a l :=
 ⟨h.1,fun j v hj=>by have:=h.2 j v hj;rw [he.cell (World.block_lt_of_cell? _ _ this)];exact this⟩
abbrev bv (b:UInt8):Value:=.int .u8 (b.toNat:Int)
abbrev PK:=(p:Prop)→Decidable p→Prop
def qq (u:jS) (x y:Value) (k:PK):Prop :=
 match u,x,y with
 | .int _,.int ka a,.int kb b=>(match decide (ka=kb) with|true=>k (a=b) inferInstance|false=>False)
 | .string,.string ⟨⟨a⟩⟩,.string ⟨⟨b⟩⟩=>k (a=b) inferInstance
 | .bool,.bool a,.bool b=>k (a=b) inferInstance
 | _,_,_=>False
theorem Vz {P:Program} {t:TypeId} {d:TD} (hd:bH P t d) {x y:Value} {k:PK} (h:qq d.under x y k) (w:World) (m:Nat) :
  ∃(p:Prop) (i:Decidable p),(Op.equalIn (m+1) t x y).run P w=.ok (@decide p i) w∧kU d.under=false∧k p i:=by
 unfold qq at h
 split at h
 ·rename_i k0 ka a kb b hu
  have bg:=hd.int hu w
  split at h
  ·rename_i hk
   have hk:=of_decide_eq_true hk
   subst hk
   refine ⟨_,_,?_,by rw [hu];rfl,h⟩
   simp only [Op.equalIn,Sem.run_bind,bg,Result.andThen_ok,if_true,Sem.run_pure]
   by_cases e:a=b<;>simp [e]
  ·exact h.elim
 ·rename_i a b hu
  have bg:=hd.string hu w
  refine ⟨_,_,?_,by rw [hu];rfl,h⟩
  simp only [Op.equalIn,Sem.run_bind,bg,Result.andThen_ok,Sem.run_pure]
  rw [beq_toListBytes]
  have e1:(ByteArray.mk ⟨a⟩).toList=a:=ByteArray.toList_mk a
  have e2:(ByteArray.mk ⟨b⟩).toList=b:=ByteArray.toList_mk b
  rw [e1,e2]
  by_cases e:a=b<;>simp [e]
 ·rename_i a b hu
  have bg:=hd.bool hu w
  refine ⟨_,_,?_,by rw [hu];rfl,h⟩
  simp only [Op.equalIn,Sem.run_bind,bg,Result.andThen_ok,Sem.run_pure]
  cases a<;>cases b<;>rfl
 ·exact h.elim
def pj (C:Cx):List (Nat×TypeId)→List Value→List Value→PK→Prop
 | [],_,_,k=>k True inferInstance
 | [f],xs,ys,k=>bV C.T f.2 fun d=>jA xs f.1 fun x=>jA ys f.1 fun y=>qq d.under x y k
 | f::r,xs,ys,k=>bV C.T f.2 fun d=>jA xs f.1 fun x=>jA ys f.1 fun y=>qq d.under x y fun p i=>pj C r xs ys fun q j=>k (p∧q) (@instDecidableAnd p q i j)
theorem zd {P:Program} {t:TypeId} {d:TD} (hd:bH P t d) (ha:kU d.under=false) {l:List Value} {off:Nat} {v:Value} (hv:l[off]?=some v) (w:World):(part t ⟨l⟩ off).run P w=.ok v w:=by
 have h1:(isAgg t).run P w=.ok false w:=by rw [hd.isAgg,ha]
 have hv':(⟨l⟩:Array Value)[off]?=some v:=by simpa using hv
 simp [part,h1,hv']
theorem Gp {C:Cx} (hT:aQ C.P C.T) {xs ys:List Value} {w:World} {m:Nat}:∀ {fs:List Field} {k:PK},(∀f∈fs,f.name ≠ "_")→pj C (fs.map fun f=>(f.offset,f.type)) xs ys k →
  ∃(p:Prop) (i:Decidable p),(Op.eqFields (m+1) ⟨xs⟩ ⟨ys⟩ fs).run C.P w=.ok (@decide p i) w∧k p i
 | [],k,_,h=>⟨True,inferInstance,by simp [Op.eqFields],h⟩
 | f::r,k,hn,h=>by
  have key:∀k',(bV C.T f.type fun d=>jA xs f.offset fun x=>jA ys f.offset fun y=>qq d.under x y k')→∃(p:Prop) (i:Decidable p),k' p i ∧
    ∀R:Sem Bool,((do
     let a ←part f.type ⟨xs⟩ f.offset
     let b ←part f.type ⟨ys⟩ f.offset
     let r ←Op.equalIn (m+1) f.type a b
     if (!r)=true then pure false else R:Sem Bool)).run C.P w=if (!@decide p i)=true then .ok false w else R.run C.P w:=by
   intro k' h
   obtain ⟨d,hd,h⟩:=di hT h
   obtain ⟨x,hx,h⟩:=u4.1 h
   obtain ⟨y,hy,h⟩:=u4.1 h
   obtain ⟨p,i,hr,ha,hk⟩:=Vz hd h w m
   refine ⟨p,i,hk,fun R=>?_⟩
   simp only [Sem.run_bind,zd hd ha hx,zd hd ha hy,hr,Result.andThen_ok,Sem.run_ite,Sem.run_pure]
  have hname:=hn f ae
  cases r with
  | nil =>
   obtain ⟨p,i,hk,hR⟩:=key k h
   refine ⟨p,i,?_,hk⟩
   simp only [Op.eqFields,hname,ne_eq,not_false_eq_true,if_true]
   rw [hR]
   simp only [Sem.run_pure]
   cases @decide p i<;>rfl
  | cons g r =>
   obtain ⟨p,i,hk,hR⟩:=key _ h
   obtain ⟨q,j,Ri,QQ⟩:=Gp hT (fs:=g::r) (fun f hf=>hn f (by simp [hf])) hk
   refine ⟨p∧q,@instDecidableAnd p q i j,?_,QQ⟩
   rw [Op.eqFields,if_pos hname,hR,Ri]
   by_cases hp:p<;>by_cases hq:q<;>simp [hp,hq]
theorem Gn {C:Cx} (hT:aQ C.P C.T) {t:TypeId} {d:TD} (hd:bH C.P t d) (he:d.eq=true) {fs:List (Nat×TypeId)} (hu:d.under=.struct fs) {xs ys:List Value} {k:PK} (h:pj C fs xs ys k) (w:World) :
  ∃(p:Prop) (i:Decidable p),k p i∧∀x y,((do eqGuard .eql t x y (.agg ⟨xs⟩) (.agg ⟨ys⟩);binOp .eql t (.agg ⟨xs⟩) (.agg ⟨ys⟩):Sem Value)).run C.P w=.ok (.bool (@decide p i)) w ∧
   ((do eqGuard .neq t x y (.agg ⟨xs⟩) (.agg ⟨ys⟩);binOp .neq t (.agg ⟨xs⟩) (.agg ⟨ys⟩):Sem Value)).run C.P w=.ok (.bool (!@decide p i)) w:=by
 obtain ⟨d0,h1,h2⟩:=hd.under
 obtain ⟨pt,rfl,xS,rfl⟩:=Lt (h2.trans hu)
 obtain ⟨hg,hs⟩:=hd.eq he
 have hf:C.P.fieldsOf t=pt:=by simp [Program.fieldsOf,h1]
 have hn:∀f∈pt.toList,f.name ≠ "_":=by
  intro f hf hc
  have:(pt.any fun f=>f.name == "_")=true:=by
   rw [Array.any_eq_true']
   exact ⟨f,by simpa using hf,by simp [hc]⟩
  rw [xS] at this
  cases this
 obtain ⟨p,i,hr,hk⟩:=Gp hT (m:=9998) (w:=w) hn h
 have hst:=run_equalIn_struct (P:=C.P) w 9999 t ⟨xs⟩ ⟨ys⟩ (by rw [hf];exact h1) hs
 rw [hf] at hst
 refine ⟨p,i,hk,fun x y=>⟨?_,?_⟩⟩
 ·rw [Sem.run_bind,run_eqGuard_agg (P:=C.P) w .eql t x y _ _ hg]
  simp only [Result.andThen_ok]
  rw [run_eql_struct,hst.trans hr]
  rfl
 ·rw [Sem.run_bind,run_eqGuard_agg (P:=C.P) w .neq t x y _ _ hg]
  simp only [Result.andThen_ok]
  rw [run_neq_struct,hst.trans hr]
  rfl
def iV (u:Nat):List UInt8:=if u<128 then [UInt8.ofNat u] else UInt8.ofNat (u%128+128)::iV (u / 128)
decreasing_by omega
theorem sv {u:Nat} (h:u<128):iV u=[UInt8.ofNat u]:=by rw [iV,if_pos h]
theorem yR {u:Nat} (h:¬u<128):iV u=UInt8.ofNat (u%128+128)::iV (u / 128):=by rw [iV,if_neg h]
def zz (n:Int):Nat:=if 0≤n then 2*n.toNat else 2*(-(n+1)).toNat+1
def ln (u:Nat):Int:=if u%2=0 then (u / 2:Nat) else -((u / 2:Nat):Int) - 1
theorem XB (n:Int):ln (zz n)=n:=by
 unfold ln zz
 split<;>split<;>omega
theorem X6 (u:Nat):zz (ln u)=u:=by
 unfold ln zz
 split<;>split<;>omega
theorem zL {n:Int} (h1 : -9223372036854775808≤n) (h2:n≤9223372036854775807):zz n<18446744073709551616:=by
 unfold zz
 split<;>omega
theorem LA {u:Nat} (h:u<18446744073709551616) : -9223372036854775808≤ln u∧ln u≤9223372036854775807:=by
 unfold ln
 split<;>omega
def ax (n:Int):List UInt8:=iV (zz n)
theorem kh (u:Nat):0<(iV u).length:=by
 rw [iV]
 split<;>simp
theorem Un:∀(k u:Nat),u<128 ^ (k+1)→(iV u).length≤k+1:=by
 intro k
 induction k with
 | zero=>intro u h;rw [sv aa];simp
 | succ k ih =>
  intro u h
  by_cases hu:u<128
  ·rw [sv hu];simp
  ·rw [yR hu]
   have:=ih (u / 128) (by rw [Nat.pow_succ] at h;omega)
   simp only [List.length_cons]
   omega
theorem cD {n:Int} (h1 : -9223372036854775808≤n) (h2:n≤9223372036854775807):(ax n).length≤10 :=
 Un 9 _ (by have:=zL h1 h2;simp only [Nat.reduceAdd,Nat.reducePow];omega)
inductive fV (α:Type) where
 | bad (c i:Int)
 | ok (x:α) (next:Nat)
inductive EE where
 | trunc
 | syn
 | ok (u k:Nat)
def eL:Nat→List UInt8→EE
 | _,[]=>.trunc
 | i,c::r=>if (i=9∧1<c.toNat)∨(0<i∧c.toNat=0) then .syn else if c.toNat<128 then .ok c.toNat 1 else
   match eL (i+1) r with
   | .ok u k=>.ok (c.toNat%128+128*u) (k+1)
   | e=>e
theorem bW {n:Nat} (h:n<256):(UInt8.ofNat n).toNat=n:=by simp [UInt8.toNat_ofNat'];omega
theorem Da {i:Nat} (h:i<9):2 ^ (64 - 7*i)=128*2 ^ (64 - 7*(i+1)):=by
 rw [show 64 - 7*i=(64 - 7*(i+1))+7 by omega,Nat.pow_add]
 omega
theorem Pz (u:Nat):∀(i:Nat) (r:List UInt8),i≤9→u<2 ^ (64 - 7*i)→(0<i→0<u)→eL i (iV u++r)=.ok u (iV u).length:=by
 induction u using Nat.strongRecOn with
 | ind u ih =>
  intro i r hi hu hp
  by_cases h:u<128
  ·rw [sv h]
   simp only [List.cons_append,List.nil_append,eL,bW (show u<256 by omega),List.length_singleton]
   rw [if_neg,if_pos h]
   rintro (⟨rfl,h1⟩|⟨h1,h2⟩)
   ·simp at hu;omega
   ·have:=hp h1;omega
  ·rw [yR h]
   have pM:i≠9:=by rintro rfl;simp at hu;omega
   have hs:=Da (i:=i) aa
   have e:=ih (u / 128) aa (i+1) r aa aa aa
   simp only [List.cons_append,eL,bW (show u%128+128<256 by omega),e,List.length_cons]
   rw [if_neg aa,if_neg aa]
   congr 1
   omega
theorem Dd:∀(r:List UInt8) (i u k:Nat),i≤9→eL i r=.ok u k→k≤r.length∧r.take k=iV u∧u<2 ^ (64 - 7*i)∧(0<i→0<u)
 | [],i,u,k,_,h=>by simp [eL] at h
 | c::r,i,u,k,hi,h=>by
  have hc:=c.toNat_lt
  simp only [eL] at h
  split at h
  ·cases h
  ·rename_i h1
   split at h
   ·rename_i h2
    cases h
    refine ⟨ae,?_,?_,fun h0=>by omega⟩
    ·rw [sv h2];simp
    ·by_cases pM:i=9
     ·subst pM;simp;omega
     ·have hs:=Da (i:=i) aa
      have:0<2 ^ (64 - 7*(i+1)):=Nat.two_pow_pos _
      omega
   ·rename_i h2
    split at h
    ·rename_i u' k' h3
     cases h
     have pM:i≠9:=by rintro rfl;omega
     obtain ⟨g1,g2,g3,g4⟩:=Dd r (i+1) u' k' aa h3
     have hs:=Da (i:=i) aa
     have g5:=g4 aa
     refine ⟨by simp;omega,?_,aa,fun _=>by omega⟩
     rw [yR aa,List.take_succ_cons,g2]
     congr 1
     ·apply UInt8.toNat_inj.1
      rw [bW aa]
      omega
     ·congr 1;omega
    ·rename_i e _
     cases e<;>simp_all
def cC (l:List UInt8) (p:Nat):fV Int :=
 match eL 0 (l.drop p) with
 | .trunc=>.bad 15 p
 | .syn=>.bad 1 p
 | .ok u k=>.ok (ln u) (p+k)
theorem gS {n:Int} (h1 : -9223372036854775808≤n) (h2:n≤9223372036854775807) (l r:List UInt8):cC (l++(ax n++r)) l.length=.ok n (l.length+(ax n).length):=by
 unfold cC ax
 rw [List.drop_left,Pz _ 0 r aa (by simpa using zL h1 h2) aa]
 simp only [XB]
theorem kW {l:List UInt8} {p q:Nat} {n:Int} (hp:p≤l.length) (h:cC l p=.ok n q):p<q∧q≤l.length∧(l.take q).drop p=ax n ∧ -9223372036854775808≤n∧n≤9223372036854775807:=by
 unfold cC at h
 split at h
 ·cases h
 ·cases h
 ·rename_i u k hg
  cases h
  obtain ⟨g1,g2,g3,_⟩:=Dd _ 0 _ _ aa hg
  simp only [List.length_drop] at g1
  have hl:=congrArg List.length g2
  have:=kh u
  simp only [List.length_take,List.length_drop] at hl
  refine ⟨aa,aa,?_,LA (by simpa using g3)⟩
  rw [ax,X6,←g2,List.take_drop,Nat.add_comm]
theorem yy {l:List UInt8} {p q:Nat} {n:Int} (hp:p≤l.length) (h:cC l p=.ok n q):l.drop p=ax n++l.drop q:=by
 obtain ⟨h1,h2,h3,_⟩:=kW hp h
 rw [←h3]
 conv=>lhs;rw [←List.take_append_drop q l,List.drop_append_of_le_length (by simp;omega)]
theorem Tr {l:List UInt8} {p:Nat} {c i:Int} (h:cC l p=.bad c i):(c=15∨c=1)∧i=p:=by
 unfold cC at h
 split at h<;>cases h
 ·exact ⟨.inl rfl,rfl⟩
 ·exact ⟨.inr rfl,rfl⟩
def cx (b:List UInt8):List UInt8:=ax b.length++b
def wI (l:List UInt8) (p:Nat):fV (List UInt8) :=
 match cC l p with
 | .bad c i=>.bad c i
 | .ok n q=>if n<0 then .bad 4 p else if (l.length:Int) - q<n then .bad 15 p else .ok ((l.drop q).take n.toNat) (q+n.toNat)
theorem Fh {b:List UInt8} (hb:b.length≤1099511627776) (l r:List UInt8):wI (l++(cx b++r)) l.length=.ok b (l.length+(cx b).length):=by
 unfold wI cx
 rw [List.append_assoc,gS aa aa]
 simp only
 rw [if_neg aa,if_neg (by simp;omega)]
 simp only [Int.toNat_natCast,List.length_append]
 congr 1
 ·rw [←List.append_assoc,List.drop_append_of_le_length ae,List.drop_of_length_le ae,List.nil_append,List.take_left]
 ·omega
theorem qj {b:List UInt8} (h:b.length≤1099511627776):(cx b).length≤10+b.length:=by
 have:=cD (n:=b.length) aa aa
 rw [cx,List.length_append]
 omega
def dL {α:Type} (one:Nat→fV α):Nat→Nat→fV (List α)
 | 0,p=>.ok [] p
 | n+1,p=>match one p with
  | .bad c i=>.bad c i
  | .ok x q=>match dL one n q with
   | .bad c i=>.bad c i
   | .ok l r=>.ok (x::l) r
def dK {α:Type} (l:List UInt8) (one:Nat→fV α) (most:Int) (p:Nat):fV (List α) :=
 match cC l p with
 | .bad c i=>.bad c i
 | .ok n q=>if n<0∨most<n then .bad 4 p else dL one n.toNat q
theorem yo {α:Type} {one:Nat→fV α}:∀(n p:Nat),dL one (n+1) p=match dL one n p with
  | .bad c i=>.bad c i
  | .ok l q=>match one q with
   | .bad c i=>.bad c i
   | .ok x r=>.ok (l++[x]) r
 | 0,p=>by
  simp only [dL]
  cases one p<;>rfl
 | n+1,p=>by
  rw [dL]
  cases h1:one p with
  | bad c i=>simp only [dL,h1]
  | ok x q =>
   simp only
   rw [yo n q]
   conv=>rhs;rw [dL,h1]
   cases h2:dL one n q with
   | bad c i=>simp only [h2]
   | ok l r =>
    simp only [h2]
    cases one r<;>rfl
def bj {α:Type} (f:α→List UInt8) (l:List α):List UInt8:=ax l.length++l.flatMap f
theorem rT {α:Type} {f:α→List UInt8} {b:List UInt8} {one:Nat→fV α}:∀(l:List α) (p:Nat),p≤b.length→(∀x∈l,∀q r,q≤b.length→b.drop q=f x++r→one q=.ok x (q+(f x).length))→∀r,b.drop p=l.flatMap f++r→dL one l.length p=.ok l (p+(l.flatMap f).length)
 | [],p,_,_,r,_=>by simp [dL]
 | x::l,p,hp,h,r,hb=>by
  simp only [List.flatMap_cons,List.append_assoc] at hb
  simp only [List.length_cons,dL]
  rw [h x ae p _ hp hb]
  simp only
  have hl:=congrArg List.length hb
  simp only [List.length_drop,List.length_append] at hl
  rw [rT l (p+(f x).length) aa (fun y hy=>h y (by simp [hy])) r (by rw [←List.drop_drop,hb,List.drop_left])]
  simp only [List.flatMap_cons,List.length_append]
  congr 1
  omega
theorem CH {α:Type} {f:α→List UInt8} {b:List UInt8} {one:Nat→fV α} (h:∀p q x,p≤b.length→one p=.ok x q→p≤q∧q≤b.length∧b.drop p=f x++b.drop q):∀(n p q:Nat) (l:List α),p≤b.length→dL one n p=.ok l q→l.length=n∧p≤q∧q≤b.length∧b.drop p=l.flatMap f++b.drop q
 | 0,p,q,l,hp,he=>by
  simp only [dL] at he
  cases he
  simp [hp]
 | n+1,p,q,l,hp,he=>by
  simp only [dL] at he
  split at he
  ·cases he
  ·rename_i x q1 h1
   split at he
   ·cases he
   ·rename_i l' r h2
    cases he
    obtain ⟨a1,a2,a3⟩:=h p q1 x hp h1
    obtain ⟨b1,b2,b3,b4⟩:=CH h n q1 _ _ a2 h2
    refine ⟨by simp [b1],aa,b3,?_⟩
    rw [a3,b4]
    simp
theorem vW {x:Nat} (h:x<18446744073709551616):IntKind.u64.wrap (x:Int)=x:=by
 rw [←EB]
 simp only [wr]
 omega
theorem lQ {w x:Nat} (h:x<2 ^ w):(BitVec.ofInt w (x:Int)).toNat=x:=by
 rw [BitVec.toNat_ofInt]
 have:((x:Int)%(2 ^ w:Nat))=x:=Int.emod_eq_of_lt aa (by exact_mod_cast h)
 rw [this]
 simp
theorem TA {x:Nat} (h:x<256):aV .or .u8 (x:Int) 128=((x%128+128:Nat):Int):=by
 have key:∀x:Fin 256,aV .or .u8 (x.val:Int) 128=((x.val%128+128:Nat):Int):=by decide +kernel
 exact key ⟨x,h⟩
theorem MG {x:Nat} (h:x<256):aV .and .u8 (x:Int) 127=((x%128:Nat):Int):=by
 have key:∀x:Fin 256,aV .and .u8 (x.val:Int) 127=((x.val%128:Nat):Int):=by decide +kernel
 exact key ⟨x,h⟩
theorem Aa {x:Nat} (h:x<18446744073709551616):aV .and .u64 (x:Int) 1=((x%2:Nat):Int):=by
 show IntKind.u64.wrap ((BitVec.ofInt 64 (x:Int) &&& BitVec.ofInt 64 1).toNat:Int)=_
 rw [BitVec.toNat_and,lQ (by simpa using h),show (BitVec.ofInt 64 1).toNat=1 from rfl,Nat.and_one_is_mod,vW aa]
theorem oq {u x j:Nat} (hu:u<2 ^ j) (hx:x*2 ^ j<18446744073709551616) (hu2:u<18446744073709551616):aV .or .u64 (u:Int) ((x*2 ^ j:Nat):Int)=((u+x*2 ^ j:Nat):Int):=by
 show IntKind.u64.wrap ((BitVec.ofInt 64 (u:Int) ||| BitVec.ofInt 64 ((x*2 ^ j:Nat):Int)).toNat:Int)=_
 rw [BitVec.toNat_or,lQ (by simpa using hu2),lQ (by simpa using hx)]
 have e:u ||| x*2 ^ j=u+x*2 ^ j:=by
  rw [Nat.or_comm,Nat.mul_comm,←Nat.two_pow_add_eq_or_of_lt hu,Nat.add_comm]
 rw [e]
 refine vW ?_
 have h1:=Nat.or_lt_two_pow (x:=u) (y:=x*2 ^ j) (n:=64) (by simpa using hu2) (by simpa using hx)
 rw [e] at h1
 simpa using h1
theorem X5 {n:Int} (h:bI n):aV .xor .u64 (((n%18446744073709551616)*2)%18446744073709551616) ((n / 9223372036854775808)%18446744073709551616)=(zz n:Int):=by
 obtain ⟨h1,h2⟩:=h
 have hz:=zL h1 h2
 show IntKind.u64.wrap ((BitVec.ofInt 64 _ ^^^ BitVec.ofInt 64 _).toNat:Int)=_
 by_cases hn:0≤n
 ·have e1:n / 9223372036854775808%18446744073709551616=0:=aa
  have e2:n%18446744073709551616*2%18446744073709551616=(zz n:Int):=by unfold zz;rw [if_pos hn];omega
  rw [e1,e2,BitVec.toNat_xor,lQ (by simpa using hz),show (BitVec.ofInt 64 0).toNat=0 from rfl,Nat.xor_zero,vW hz]
 ·have e1:n / 9223372036854775808%18446744073709551616=18446744073709551615:=aa
  have e2:n%18446744073709551616*2%18446744073709551616=((18446744073709551615 - zz n:Nat):Int):=by unfold zz;rw [if_neg hn];omega
  rw [e1,e2,show BitVec.ofInt 64 18446744073709551615=BitVec.allOnes 64 from rfl,BitVec.xor_allOnes,BitVec.toNat_not,lQ (by simp only [Nat.reducePow];omega)]
  rw [show (2 ^ 64 - 1 - (18446744073709551615 - zz n))=zz n by simp only [Nat.reducePow];omega,vW hz]
theorem XA {u:Nat} (h:u<18446744073709551616):aV .xor .i64 ((u / 2:Nat):Int) (0 - ((u%2:Nat):Int))=ln u:=by
 show IntKind.i64.wrap ((BitVec.ofInt 64 _ ^^^ BitVec.ofInt 64 _).toNat:Int)=_
 unfold ln
 rcases Nat.mod_two_eq_zero_or_one u with e|e
 ·rw [e,if_pos rfl]
  rw [show (0 - ((0:Nat):Int))=0 from rfl,BitVec.toNat_xor,lQ (by simp only [Nat.reducePow];omega),show (BitVec.ofInt 64 0).toNat=0 from rfl,Nat.xor_zero]
  exact wrap_i64 (by constructor<;>omega)
 ·rw [e,if_neg aa]
  rw [show (0 - ((1:Nat):Int)) = -1 from rfl,show BitVec.ofInt 64 (-1)=BitVec.allOnes 64 from rfl,BitVec.xor_allOnes,BitVec.toNat_not,lQ (by simp only [Nat.reducePow];omega)]
  have key:∀x:Int,9223372036854775808≤x→x<18446744073709551616→IntKind.i64.wrap x=x - 18446744073709551616:=by
   intro x h1 h2
   have:∀m p:Int,m=18446744073709551616→p=9223372036854775808→(if (true&&decide (x%m≥p))=true then x%m - m else x%m)=x - 18446744073709551616:=by
    rintro m p rfl rfl
    simp only [Bool.true_and,ge_iff_le,decide_eq_true_eq]
    split<;>omega
   exact this (2 ^ 64) (2 ^ 63) ag ag
  rw [key _ (by simp only [Nat.reducePow];omega) (by simp only [Nat.reducePow];omega)]
  simp only [Nat.reducePow]
  omega
theorem L7 {x:Nat} (h:x<9223372036854775808):IntKind.i64.wrap (x:Int)=x:=wrap_i64 (by constructor<;>omega)
theorem TH {u x j:Nat} (hu:u<2 ^ j) (hx:x*2 ^ j+u<9223372036854775808):aV .or .i64 ((x*2 ^ j:Nat):Int) (u:Int)=((x*2 ^ j+u:Nat):Int):=by
 show IntKind.i64.wrap ((BitVec.ofInt 64 ((x*2 ^ j:Nat):Int) ||| BitVec.ofInt 64 (u:Int)).toNat:Int)=_
 rw [BitVec.toNat_or,lQ (by simp only [Nat.reducePow];omega),lQ (by simp only [Nat.reducePow];omega)]
 have e:x*2 ^ j ||| u=x*2 ^ j+u:=by
  rw [Nat.mul_comm,←Nat.two_pow_add_eq_or_of_lt hu]
 rw [e]
 exact L7 hx
theorem qg {x y:Nat} (hx:x<256) (hy:y<256):aV .or .i64 ((x:Int)*256) (y:Int)=((256*x+y:Nat):Int):=by
 have:=TH (u:=y) (x:=x) (j:=8) hy (by simp only [Nat.reducePow];omega)
 rw [show ((x:Int)*256)=((x*2 ^ 8:Nat):Int) by simp only [Nat.reducePow];omega,this]
 simp only [Nat.reducePow]
 congr 1
 omega
theorem M9 (k:IntKind) (a b:Int):aV .or k a b=aV .or k b a:=by
 show k.wrap _=k.wrap _
 rw [BitVec.or_comm]
theorem yE {x y:Nat} (hx:x<256) (hy:y<256):aV .or .i64 (y:Int) ((x:Int)*256)=((256*x+y:Nat):Int):=by
 rw [M9,qg hx hy]
theorem k9:(2:Int) ^ min (Int.toNat 8) IntKind.i64.bits=256:=ag
end Go.Proofs.YtmoiobegbpkkbaaGreatDoor
