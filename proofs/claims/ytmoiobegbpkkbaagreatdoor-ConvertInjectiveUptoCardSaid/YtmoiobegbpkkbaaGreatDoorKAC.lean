import Derived.Test.YtmoiobegbpkkbaaGreatDoorKAB
import Derived.OrdersIn
import Derived.Laws.MakeOwn
import Derived.Lib.AppendStr
namespace Go.Proofs.YtmoiobegbpkkbaaGreatDoor
open Go Go.RowKit
set_option maxRecDepth 100000
set_option maxHeartbeats 8000000
theorem WI {T:List TD} {t:TypeId} {k:TD→Prop} {d:TD} (hd:T[t]?=some d) (h:k d):bV T t k:=D5.2 ⟨d,hd,h⟩
def bb (rd:Bool) (R:World→(Value→World→Prop)→Prop):Prop :=
 ∀w k,R w k→∃v,k v w∧∀w1 (k1:Value→World→Prop),(rd=true→Ext w w1)→k1 v w1→R w1 k1
theorem Px {env:Env} {t:Nat} {R:Value→World→(Value→World→Prop)→Prop} {rd:Bool} (h:∀v,bb rd (R v)):bb rd fun w k=>my env t fun v=>R v w k:=by
 intro w k hk
 obtain ⟨v,hv,hk⟩:=nM.1 hk
 obtain ⟨u,h1,h2⟩:=h v w k hk
 exact ⟨u,h1,fun w1 k1 he bS=>nM.2 ⟨v,hv,h2 w1 k1 he bS⟩⟩
theorem fk {env:Env} {x:Operand} {R:Value→World→(Value→World→Prop)→Prop} {rd:Bool} (h:∀v,bb rd (R v)):bb rd fun w k=>bf env x fun v=>R v w k:=by
 cases x with
 | tmp t=>exact Px h
 | const v=>exact h v
 | global g=>exact h _
 | func f=>exact h _
theorem qG {env:Env} {rd:Bool}:∀ {xs:List Operand} {R:List Value→World→(Value→World→Prop)→Prop},(∀v,bb rd (R v))→bb rd fun w k=>eT env xs fun v=>R v w k
 | [],_,h=>h []
 | _::xs,R,h=>fk (R:=fun v w k=>eT env xs fun vs=>R (v::vs) w k) fun v=>qG (R:=fun vs=>R (v::vs)) fun vs=>h (v::vs)
theorem JA {env:Env} {rd:Bool}:∀ {xs:List (Nat×Operand)} {R:List (Nat×Value)→World→(Value→World→Prop)→Prop},(∀v,bb rd (R v))→bb rd fun w k=>sj env xs fun v=>R v w k
 | [],_,h=>h []
 | (i,_)::xs,R,h=>fk (R:=fun v w k=>sj env xs fun vs=>R ((i,v)::vs) w k) fun v=>JA (R:=fun vs=>R ((i,v)::vs)) fun vs=>h ((i,v)::vs)
theorem dP {T:List TD} {t:TypeId} {rd:Bool} {R:TD→World→(Value→World→Prop)→Prop} (h:∀d,T[t]?=some d→bb rd (R d)):bb rd fun w k=>bV T t fun d=>R d w k:=by
 intro w k hk
 obtain ⟨d,hd,hk⟩:=D5.1 hk
 obtain ⟨u,h1,h2⟩:=h d hd w k hk
 exact ⟨u,h1,fun w1 k1 he bS=>WI hd (h2 w1 k1 he bS)⟩
theorem bY {rd:Bool} (v:Value):bb rd fun w k=>k v w:=fun _ _ h=>⟨v,h,fun _ _ _ h=>h⟩
theorem bX {rd:Bool}:bb rd fun _ _=>False:=fun _ _ h=>h.elim
theorem fT {rd:Bool} {p:Prop} {R:World→(Value→World→Prop)→Prop} (h:bb rd R):bb rd fun w k=>p∧R w k:=by
 intro w k ⟨hp,hk⟩
 obtain ⟨v,h1,h2⟩:=h w k hk
 exact ⟨v,h1,fun w1 k1 he bS=>⟨hp,h2 w1 k1 he bS⟩⟩
theorem pq {rd:Bool} {kd:IntKind} {x:Int}:bb rd fun w k=>jY kd x fun v=>k v w:=by
 unfold jY
 cases kd<;>first|exact bY _|exact fT (bY _)
theorem zD {rd:Bool} {R S:World→(Value→World→Prop)→Prop} (h1:bb rd R) (h2:bb rd S):bb rd fun w k=>R w k∨S w k:=by
 rintro w k (h|h)
 ·obtain ⟨v,a,b⟩:=h1 w k h
  exact ⟨v,a,fun w1 k1 he hk=>.inl (b w1 k1 he hk)⟩
 ·obtain ⟨v,a,b⟩:=h2 w k h
  exact ⟨v,a,fun w1 k1 he hk=>.inr (b w1 k1 he hk)⟩
theorem RU {rd:Bool} {op:BinOp} {kd:IntKind} {x y:Int}:bb rd fun w k=>kT op kd x y fun v=>k v w:=by
 unfold kT
 cases op<;>first|exact pq|exact bY _|exact fT (bY _)|exact fT pq|exact zD (fT pq) (fT pq)|exact zD (fT (bY _)) (fT (bY _))
theorem Wm {rd:Bool} {op:BinOp} {x y:List UInt8}:bb rd fun w k=>zq op x y fun v=>k v w:=by
 unfold zq
 cases op<;>first|exact bY _|exact fT (bY _)|exact bX
theorem Gs {rd neg:Bool} {u:jS} {a b:Value}:bb rd fun w k=>rh neg u a b fun v=>k v w:=by
 unfold rh
 split<;>first|exact bY _|exact bX
theorem u5 {rd:Bool} {l:List Value} {i:Nat} {R:Value→World→(Value→World→Prop)→Prop} (h:∀v,bb rd (R v)):bb rd fun w k=>jA l i fun v=>R v w k:=by
 intro w k hk
 obtain ⟨v,hv,hk⟩:=u4.1 hk
 obtain ⟨u,h1,h2⟩:=h v w k hk
 exact ⟨u,h1,fun w1 k1 he bS=>u4.2 ⟨v,hv,h2 w1 k1 he bS⟩⟩
theorem Kr {rd:Bool} {u:jS} {x y:Value} {R:(p:Prop)→Decidable p→World→(Value→World→Prop)→Prop} (h:∀p i,bb rd (R p i)):bb rd fun w k=>qq u x y fun p i=>R p i w k:=by
 unfold qq
 split
 ·split
  ·exact h _ _
  ·exact bX
 ·exact h _ _
 ·exact h _ _
 ·exact bX
theorem AZ {C:Cx} {rd:Bool} {xs ys:List Value}:∀ {fs:List (Nat×TypeId)} {R:(p:Prop)→Decidable p→World→(Value→World→Prop)→Prop},(∀p i,bb rd (R p i))→bb rd fun w k=>pj C fs xs ys fun p i=>R p i w k
 | [],_,h=>h _ _
 | [_],_,h=>dP fun _ _=>u5 fun _=>u5 fun _=>Kr h
 | _::g::r,R,h=>dP fun _ _=>u5 fun _=>u5 fun _=>Kr (R:=fun p i w k=>pj C (g::r) xs ys fun q j=>R (p∧q) (@instDecidableAnd p q i j) w k) fun _ _=>AZ (fs:=g::r) fun _ _=>h _ _
theorem M6 {C:Cx} {rd:Bool} {op:BinOp} {t:TypeId} {a b:Value} (hq:∀n e,fj C.T t≠.array n e):bb rd fun w k=>ti C op t a b w k:=by
 unfold ti
 split
 ·split
  ·exact fT pq
  ·exact fT (bY _)
  ·split<;>first|exact RU|exact bX
 ·exact Wm
 ·refine dP fun d hd=>?_
  split
  ·exact AZ fun p i=>bY _
  ·exact AZ fun p i=>bY _
  ·rename_i n e hu
   exact absurd (by simp [fj,hd,hu]) (hq n e)
  ·exact bX
 ·split
  ·exact dP fun d _=>Gs
  ·exact dP fun d _=>Gs
  ·exact bX
theorem Nw {rd:Bool} {v:Value} {R:List Value→World→(Value→World→Prop)→Prop} (h:∀l,bb rd (R l)):bb rd fun w k=>nF v fun l=>R l w k:=by
 unfold nF
 split<;>exact h _
theorem Dy {rd:Bool}:∀ {c:List Value} {o:Nat} {l:List Value} {R:List Value→World→(Value→World→Prop)→Prop},(∀l,bb rd (R l))→bb rd fun w k=>cW c o l fun r=>R r w k
 | c,0,[],R,h=>by cases c<;>exact h _
 | u::c,0,v::l,R,h=>Dy (c:=c) (o:=0) (l:=l) (R:=fun r=>R (v::r)) fun r=>h _
 | u::c,o+1,l,R,h=>by
  have:=Dy (rd:=rd) (c:=c) (o:=o) (l:=l) (R:=fun r=>R (u::r)) fun r=>h _
  cases l<;>exact this
 | [],0,v::l,R,h=>bX
 | [],o+1,l,R,h=>by cases l<;>exact bX
theorem GI {C:Cx} {rd:Bool} {fs:List (Nat×TypeId)}:∀ {ps:List (Nat×Value)} {c:List Value} {R:List Value→World→(Value→World→Prop)→Prop},(∀l,bb rd (R l))→bb rd fun w k=>pn C fs ps c fun r=>R r w k
 | [],c,R,h=>h _
 | (i,v)::r,c,R,h=>by
  simp only [pn]
  cases fs[i]? with
  | none=>exact bX
  | some f =>
   refine dP fun d _=>Nw (R:=fun l w k=>match Nat.beq l.length d.size with
    | true=>cW c f.1 l fun c'=>pn C fs r c' fun r=>R r w k
    | false=>False) fun l=>?_
   cases Nat.beq l.length d.size with
   | true=>exact Dy fun c'=>GI h
   | false=>exact bX
theorem EO {C:Cx} {rd:Bool}:∀ {fs:List (Nat×TypeId)} {R:World→(Value→World→Prop)→Prop},bb rd R→bb rd fun w k=>wi C fs (R w k)
 | [],_,h=>h
 | _::_,_,h=>dP fun _ _=>EO h
theorem mn {rd:Bool} {x:Option Value} {d m:Nat} {R:Nat→World→(Value→World→Prop)→Prop} (h:∀n,bb rd (R n)):bb rd fun w k=>gI x d m fun n=>R n w k:=by
 unfold gI
 split
 ·exact h _
 ·exact fT (h _)
 ·exact bX
theorem Jz {rd:Bool} {d:TD} {off:Nat} {l:List Value}:bb rd fun w k=>sf d off l fun v=>k v w:=by
 unfold sf
 split
 ·exact bY _
 ·split
  ·exact bY _
  ·exact bX
theorem IW {b:Nat}:∀ {n o:Nat} {R:List Value→World→(Value→World→Prop)→Prop},(∀l,bb true (R l))→bb true fun w k=>ym w b n o fun l=>R l w k
 | 0,o,R,h=>h _
 | n+1,o,R,h=>by
  rintro w k ⟨v,hv,hk⟩
  obtain ⟨u,h1,h2⟩:=IW (b:=b) (n:=n) (o:=o+1) (R:=fun l=>R (v::l)) (fun l=>h _) w k hk
  exact ⟨u,h1,fun w1 k1 he bS=>⟨v,by rw [(he rfl).cell (World.block_lt_of_cell? _ _ hv)];exact hv,h2 w1 k1 he bS⟩⟩
theorem Sk {C:Cx} {t:TypeId} {v:Value}:bb true fun w k=>od C t v w k:=by
 unfold od
 split
 ·rename_i b o
  refine dP fun d _=>?_
  cases kU d.under with
  | true =>
   cases Nat.ble d.size 16 with
   | true=>exact IW (R:=fun l w k=>k (.agg l.toArray) w) fun l=>bY _
   | false =>
    rintro w k ⟨l,hl,hc,hk⟩
    exact ⟨_,hk,fun w1 k1 he bS=>⟨l,hl,fun j v hj=>by have:=hc j v hj;rw [(he rfl).cell (World.block_lt_of_cell? _ _ this)];exact this,bS⟩⟩
  | false =>
   rintro w k ⟨u,hu,hk⟩
   exact ⟨u,hk,fun w1 k1 he bS=>⟨u,by rw [(he rfl).cell (World.block_lt_of_cell? _ _ hu)];exact hu,bS⟩⟩
 ·exact bX
theorem GF {C:Cx} {rd:Bool} {u:jS} {f:Nat} {R:Nat→TypeId→TD→World→(Value→World→Prop)→Prop} (h:∀a b d,bb rd (R a b d)):bb rd fun w k=>rq C u f fun a b d=>R a b d w k:=by
 unfold rq
 split
 ·split
  ·exact dP fun df _=>h _ _ _
  ·exact bX
 ·exact bX
theorem O9 {C:Cx} {rd:Bool} {t:TypeId} {x:Value} {f:Nat}:bb rd fun w k=>rl C t x f w k:=by
 unfold rl
 split
 ·refine dP fun d _=>GF fun a b df=>?_
  split<;>first|exact bX|exact bY _
 ·exact bX
theorem Pb {C:Cx} {rd:Bool} {t:TypeId} {x:Value} {f:Nat}:bb rd fun w k=>ru C t x f w k:=by
 unfold ru
 split
 ·exact dP fun d _=>GF fun a b df=>Jz
 ·exact bX
theorem RH {C:Cx} {rd:Bool} {t:TypeId} {x i:Value}:bb rd fun w k=>p9 C t x i w k:=by
 unfold p9
 split
 ·refine dP fun d _=>?_
  split
  ·exact dP fun de _=>fT (fT (bY _))
  ·exact dP fun de _=>fT (bY _)
  ·exact bX
 ·exact bX
theorem RQ {C:Cx} {rd:Bool} {t:TypeId} {x i:Value}:bb rd fun w k=>qa C t x i w k:=by
 unfold qa
 split
 ·refine dP fun d _=>?_
  split
  ·refine fT ?_
   rintro w k ⟨c,hc,hk⟩
   exact ⟨_,hk,fun w1 k1 _ bS=>⟨c,hc,bS⟩⟩
  ·exact dP fun de _=>fT Jz
  ·exact bX
 ·exact bX
theorem VS {C:Cx} {rd:Bool} {t:TypeId} {x:Value} {lo hi mx:Option Value}:bb rd fun w k=>oF C t x lo hi mx w k:=by
 unfold oF
 refine dP fun d _=>?_
 split
 ·split
  ·exact mn fun n=>mn fun n'=>bY _
  ·exact bX
 ·refine dP fun de _=>?_
  split
  ·exact mn fun n=>mn fun n'=>fT (bY _)
  ·refine mn fun n=>?_
   split
   ·exact mn fun n=>mn fun n'=>bY _
   ·exact bX
 ·refine dP fun de _=>?_
  split
  ·exact mn fun n=>mn fun n'=>bY _
  ·exact bX
 ·exact bX
theorem Xs {rd:Bool} {op:UnOp} {x:Value}:bb rd fun w k=>sM op x fun v=>k v w:=by
 unfold sM
 split<;>first|exact bY _|exact pq|exact zD (fT (bY _)) (bY _)|exact bX
theorem Oa {C:Cx} {s d:TypeId} {x:Value} (hq:(match fj C.T s,fj C.T d with
  | .int _,.int _=>true
  | .string,.string=>true
  | .slice e,.string=>uM (fj C.T e)
  | _,_=>false)=true):bb true fun w k=>wP C s d x w k:=by
 refine dP fun ds fI=>dP fun dd nU=>?_
 have e1:fj C.T s=ds.under:=by simp [fj,fI]
 have e2:fj C.T d=dd.under:=by simp [fj,nU]
 rw [e1,e2] at hq
 split
 ·exact zD (fT (bY _)) (bY _)
 ·exact pq
 ·exact bY _
 ·rename_i e a len cap ir hu2
  rw [ir,hu2] at hq
  refine dP fun de hde=>?_
  have e3:fj C.T e=de.under:=by simp [fj,hde]
  simp only [e3] at hq
  rw [hq]
  rintro w k ⟨l,hl,hc,hk⟩
  exact ⟨_,hk,fun w1 k1 he bS=>⟨l,hl,hc.ext (he rfl),bS⟩⟩
 ·rename_i ir hu2;rw [ir,hu2] at hq;cases hq
 ·rename_i ir hu2;rw [ir,hu2] at hq;cases hq
 ·rename_i ir hu2;rw [ir,hu2] at hq;cases hq
 ·exact bX
theorem Ng {C:Cx} {rd:Bool} {t:TypeId} {ps:List (Nat×Value)} (hq:(match fj C.T t with|.struct _=>true|_=>false)=true):bb rd fun w k=>tj C t ps w k:=by
 unfold tj
 refine dP fun d hd=>?_
 have e1:fj C.T t=d.under:=by simp [fj,hd]
 rw [e1] at hq
 unfold vY
 split
 ·dsimp only
  split
  ·exact EO (GI (R:=fun c' w k=>k (.agg ⟨c'⟩) w) fun l=>bY _)
  ·rename_i hu _;rw [hu] at hq;cases hq
  ·exact bX
 ·exact bX
theorem Se {C:Cx} {rd:Bool} {t:TypeId} {x:Value}:bb rd fun w k=>yf C t x fun v=>k v w:=by
 unfold yf
 refine dP fun d _=>?_
 split<;>first|exact bY _|exact bX
theorem M8 {rd:Bool} {C:Cx} {op:BinOp} {t:TypeId} {y:Operand} {a b:Value} (hq:∀n e,fj C.T t≠.array n e):bb rd fun w k=>oX C op t y a b w k:=by
 unfold oX
 split
 ·refine dP fun d _=>?_
  split<;>first|exact bY _|exact bX
 ·exact M6 hq
theorem XU {C:Cx} {op:Op} {ty:TypeId} {env:Env} (hq:gA C.T op=true) {Z:List PanicEntry→World→Prop}:bb (qm op) fun w k=>iB C op ty env w k Z:=by
 cases op
 case move x=>exact fk (R:=fun v w k=>k v w) fun v=>bY v
 case assign x=>exact fk (R:=fun v w k=>k v w) fun v=>bY v
 case pick c a b =>
  refine fk (R:=fun v w k=>(match v with
   | .bool t=>gK 0 t fun t'=>(match t' with|true=>bf env a fun u=>k u w|false=>bf env b fun u=>k u w)
   | _=>False)) fun v=>?_
  cases v<;>first
   | exact bX
   | (rename_i t
      cases t with
      | true=>exact fk (R:=fun v w k=>k v w) fun v=>bY v
      | false=>exact fk (R:=fun v w k=>k v w) fun v=>bY v)
 case load t x=>exact fk (R:=fun v w k=>od C t v w k) fun v=>Sk
 case nilCheck x =>
  refine fk (R:=fun v w k=>(match v with
   | .pointer (some a)=>k (.pointer (some a)) w
   | .func (.func f) a b=>k (.func (.func f) a b) w
   | .func (.yield f) a b=>k (.func (.yield f) a b) w
   | .map r=>k (.map r) w
   | .iface t u=>k (.iface t u) w
   | _=>False)) fun v=>?_
  split<;>first|exact bY _|exact bX
 case binOp op t x y t2 =>
  refine fk (R:=fun a w k=>bf env y fun b=>oX C op t y a b w k) fun a=>fk (R:=fun b w k=>oX C op t y a b w k) fun b=>M8 fun n e he=>?_
  have:gA C.T (.binOp op t x y t2)=(match fj C.T t with|.array _ _=>false|_=>true):=rfl
  rw [this,he] at hq
  cases hq
 case unOp op t x=>exact fk (R:=fun a w k=>sM op a fun v=>k v w) fun a=>Xs
 case convert s d x=>exact fk (R:=fun a w k=>wP C s d a w k) fun a=>Oa hq
 case makeFunc fn first captured =>
  cases fn<;>first
   | exact qG (R:=fun a w k=>eT env captured.toList fun b=>k (.func (.func _) a.toArray b.toArray) w) fun a=>qG (R:=fun b w k=>k (.func (.func _) a.toArray b.toArray) w) fun b=>bY _
   | cases hq
 case fieldAddr t x f=>exact fk (R:=fun a w k=>rl C t a f w k) fun a=>O9
 case field t x f=>exact fk (R:=fun a w k=>ru C t a f w k) fun a=>Pb
 case indexAddr t x i=>exact fk (R:=fun a w k=>bf env i fun j=>p9 C t a j w k) fun a=>fk (R:=fun j w k=>p9 C t a j w k) fun j=>RH
 case index t x i=>exact fk (R:=fun a w k=>bf env i fun j=>qa C t a j w k) fun a=>fk (R:=fun j w k=>qa C t a j w k) fun j=>RQ
 case extract x i =>
  refine fk (R:=fun a w k=>tI a i w k) fun a=>?_
  unfold tI
  split
  ·exact u5 (R:=fun v w k=>k v w) fun v=>bY v
  ·exact bX
 case slice t x lo hi mx =>
  exact fk (R:=fun a w k=>eT env lo.toList fun l=>eT env hi.toList fun h=>eT env mx.toList fun m=>oF C t a l.head? h.head? m.head? w k) fun a =>
   qG (R:=fun l w k=>eT env hi.toList fun h=>eT env mx.toList fun m=>oF C t a l.head? h.head? m.head? w k) fun l =>
   qG (R:=fun h w k=>eT env mx.toList fun m=>oF C t a l.head? h.head? m.head? w k) fun h =>
   qG (R:=fun m w k=>oF C t a l.head? h.head? m.head? w k) fun m=>VS
 case build t parts=>exact JA (R:=fun ps w k=>tj C t ps w k) fun ps=>Ng hq
 case call c =>
  obtain ⟨Nq,args,ts⟩:=c
  cases Nq with
  | value f=>cases hq
  | invoke r m=>cases hq
  | builtin b =>
   refine qG (R:=fun vs w k=>Aj C b ts ty vs w k) fun vs=>?_
   cases b<;>first|cases hq|skip
   obtain ⟨args⟩:=args
   obtain ⟨ts⟩:=ts
   match args,ts,hq with
   | [_],[t],_ =>
    match vs with
    | [x]=>exact Se
    | []=>exact bX
    | _::_::_=>exact bX
 all_goals cases hq
section
variable (C:Cx) (ops:List Oper) (xs ys:List Nat) (Rel:World→World→Prop) (Q:Exit→Act→World→Prop)
def bA (i:Nat) (o:Oper) (K:Act→World→Prop) (a:Act) (w:World):Prop :=
 if Region.wanted o (yielded ops.toArray a.tmps)=true then
  (if gA C.T o.op=true then ∃v,(∀w1,(qm o.op=true→(i∈ys∧Rel w w1)∨w1=w)→(Oper.semAt C.r a.eval o).run C.P w1=.ok (.value v) w1)∧K (a.put o.dst v) w
   else o.wpIn (Fr C.r) 0 C.P a w (fun a1 w1=>(i∈xs→Rel w w1)∧K a1 w1) Q)
 else K (a.put o.dst undef) w
def Good:List (Nat×Oper)→Act→World→Prop
 | [],a,w=>Q .normal a w
 | (i,o)::r,a,w=>bA C ops xs ys Rel Q i o (Good r) a w
end
section
variable {C:Cx} {ops:List Oper} {xs ys:List Nat} {Rel:World→World→Prop} {Q:Exit→Act→World→Prop}
theorem XW {o:Oper} {a:Act} {w:World} {K:Act→World→Prop} (h:o.wpIn (Fr C.r) 0 C.P a w K Q):o.wpIn (Fr C.r) 0 C.P a w (fun a1 w1=>(∃u,a1.tmps=(a.put o.dst u).tmps)∧K a1 w1) Q:=by
 refine ⟨h.1,?_⟩
 have h:=h.2
 generalize (o.semAt (Fr C.r).round a.eval).run C.P w=r at h ⊢
 cases r with
 | ok n w' =>
  cases n<;>simp only [Oper.uponIn] at h ⊢<;>first
   | exact ⟨⟨_,rfl⟩,h⟩
   | (refine ⟨h.1,CallsIn.mono h.2 fun e nq he=>?_⟩
      cases e with
      | returned u=>exact ⟨⟨_,rfl⟩,he⟩
      | panicked ch=>exact he
      | outgrown=>exact he)
   | (refine ⟨h.1,RowsIn.mono h.2 fun u nq he=>?_⟩
      exact ⟨⟨_,rfl⟩,he⟩)
   | (refine ⟨h.1,RoundIn.mono h.2 fun e nq he=>?_⟩
      cases e with
      | returned u=>exact ⟨⟨_,rfl⟩,he⟩
      | panicked ch=>exact he
      | outgrown=>exact he)
   | (refine ⟨⟨undef,?_⟩,h⟩
      cases o.dst<;>rfl)
   | exact h
 | halt x w'=>cases x<;>simp only [Oper.uponIn] at h ⊢<;>exact h
theorem bA.mono {i:Nat} {o:Oper} {K K':Act→World→Prop} {a:Act} {w:World} (h:bA C ops xs ys Rel Q i o K a w)
  (hk:∀a1 w1,(∃u,a1.tmps=(a.put o.dst u).tmps)→(w1=w∨(gA C.T o.op=false∧(i∈xs→Rel w w1)))→K a1 w1→K' a1 w1):bA C ops xs ys Rel Q i o K' a w:=by
 unfold bA at h ⊢
 split at h
 ·rename_i hw
  rw [if_pos hw]
  split at h
  ·rename_i hq
   rw [if_pos hq]
   obtain ⟨v,h1,h2⟩:=h
   exact ⟨v,h1,hk _ _ ⟨_,rfl⟩ (.inl rfl) h2⟩
  ·rename_i hq
   rw [if_neg hq]
   exact Oper.wpIn_mono (fun a1 w1 ⟨h0,h1,h2⟩=>⟨h1,hk _ _ h0 (.inr ⟨by simpa using hq,h1⟩) h2⟩) (XW h)
 ·rename_i hw
  rw [if_neg hw]
  exact hk _ _ ⟨_,rfl⟩ (.inl rfl) h
theorem bA.sound {i:Nat} {o:Oper} {K:Act→World→Prop} {a:Act} {w:World} (ho:ops[i]?=some o) (h:bA C ops xs ys Rel Q i o K a w):wpOpIn (Fr C.r) 0 C.P ops.toArray Q i K a w:=by
 have gP:ops.toArray[i]?=some o:=by simpa using ho
 unfold bA at h
 unfold wpOpIn
 simp only [gP]
 split at h
 ·rename_i hw
  rw [if_pos hw]
  split at h
  ·obtain ⟨v,h1,h2⟩:=h
   refine ⟨fun _ _=>trivial,?_⟩
   have e:(Fr C.r).round=C.r:=rfl
   rw [e,h1 w (fun _=>.inr rfl)]
   exact h2
  ·exact Oper.wpIn_mono (fun _ _ h=>h.2) h
 ·rename_i hw
  rw [if_neg hw]
  exact ⟨fun _ _=>trivial,h⟩
theorem Sm {x:Operand} {o:Oper} {t:Tmp} (hx:x∈o.op.operands) (ht:x=.tmp t) (CW:Array Oper):t∈o.looksAt CW:=by
 subst ht
 simp only [Oper.looksAt,List.mem_append,List.mem_filterMap]
 exact .inl ⟨.tmp t,by simpa using hx,rfl⟩
theorem wanted_put {o:Oper} {a:Act} {d:Option Tmp} {v:Value} (h:∀t,d=some t→t∉o.looksAt ops.toArray):Region.wanted o (yielded ops.toArray (a.put d v).tmps)=Region.wanted o (yielded ops.toArray a.tmps):=by
 unfold Region.wanted
 split
 ·rfl
 ·rename_i j want hg
  congr 1
  unfold yielded
  cases hj:(ops.toArray[j]?).bind (·.dst) with
  | none=>rfl
  | some s =>
   simp only [Option.bind_some]
   have:(a.put d v).tmps[s]?=a.tmps[s]?:=by
    cases d with
    | none=>rfl
    | some t =>
     have hne:t≠s:=by
      intro e
      subst e
      refine h t rfl ?_
      simp only [Oper.looksAt,List.mem_append,hg]
      exact .inr (by rw [hj];simp)
     simp [Act.put,Array.getElem?_setIfInBounds_ne hne]
   rw [this]
theorem zl {o:Oper} {a:Act} {d:Option Tmp} {v:Value} (hs:∀cs b,o.op≠.select cs b) (h:∀t,d=some t→t∉o.looksAt ops.toArray):Oper.semAt C.r (a.put d v).eval o=Oper.semAt C.r a.eval o:=by
 have he:∀x∈o.op.operands,(a.put d v).eval x=a.eval x:=fun x hx=>Act.eval_put fun t ht e=>h t ht (Sm hx e _)
 unfold Oper.semAt
 split
 ·rename_i l c _ hop
  have:resolve (a.put d v).eval c o.type=resolve a.eval c o.type:=resolve_congr c o.type fun x hx=>he x (by rw [hop];simpa [Op.operands] using hx)
  rw [this]
 ·exact execOp_congr o hs he
def CP:Op→Bool
 | .select _ _=>false
 | _=>true
theorem bA.wO {i:Nat} {o:Oper} {K:Act→World→Prop} {a:Act} {w:World} {d:Option Tmp} {v:Value} (hs:CP o.op=true)
  (h1:∀t,d=some t→t∉o.looksAt ops.toArray) (h2:∀t,d=some t→o.dst≠some t) (hQ:∀ch a w,Q (.panic ch) (a.put d v) w→Q (.panic ch) a w)
  (h:bA C ops xs ys Rel Q i o K (a.put d v) w):bA C ops xs ys Rel Q i o (fun a1 w1=>K (a1.put d v) w1) a w:=by
 have Ij:∀cs b,o.op≠.select cs b:=fun cs b e=>by rw [e] at hs;cases hs
 unfold bA at h ⊢
 rw [wanted_put h1] at h
 split at h
 ·rename_i hw
  rw [if_pos hw]
  rw [zl Ij h1] at h
  split at h
  ·rename_i hq
   rw [if_pos hq]
   obtain ⟨u,h3,h4⟩:=h
   refine ⟨u,h3,?_⟩
   show K ((a.put o.dst u).put d v) w
   rw [Act.put_comm a (x:=o.dst) (y:=d) u v (fun t ht hd=>h2 t hd ht)];exact h4
  ·rename_i hq
   rw [if_neg hq]
   refine ⟨fun _ _=>trivial,?_⟩
   have h:=h.2
   have e:(Fr C.r).round=C.r:=rfl
   rw [e] at h ⊢
   rw [zl Ij h1] at h
   have pc:∀u,(a.put d v).put o.dst u=(a.put o.dst u).put d v:=fun u=>(Act.put_comm a (x:=o.dst) (y:=d) u v (fun t ht hd=>h2 t hd ht)).symm
   generalize (o.semAt C.r a.eval).run C.P w=r at h
   cases r with
   | ok n w' =>
    cases n<;>simp only [Oper.uponIn] at h ⊢<;>first
     | exact h
     | (rw [pc] at h;exact h)
     | (refine ⟨h.1,CallsIn.mono h.2 fun e nq he=>?_⟩
        cases e with
        | returned u=>simp only at he ⊢;rw [pc] at he;exact he
        | panicked ch=>exact hQ _ _ _ he
        | outgrown=>exact he)
     | (refine ⟨h.1,RowsIn.mono h.2 fun u nq he=>?_⟩
        rw [pc] at he;exact he)
     | (refine ⟨h.1,RoundIn.mono h.2 fun e nq he=>?_⟩
        cases e with
        | returned u=>simp only at he ⊢;rw [pc] at he;exact he
        | panicked ch=>exact hQ _ _ _ he
        | outgrown=>exact he)
     | (rename_i dd
        have e2:({ a.put d v with defers:=dd::(a.put d v).defers }:Act).put o.dst undef=(({ a with defers:=dd::a.defers }:Act).put o.dst undef).put d v:=by
         rw [Act.put_defers]
         exact (Act.put_comm _ (x:=o.dst) (y:=d) undef v (fun t ht hd=>h2 t hd ht)).symm
        rw [e2] at h;exact h)
   | halt x w' =>
    cases x<;>simp only [Oper.uponIn] at h ⊢<;>first|exact h|exact hQ _ _ _ h
 ·rename_i hw
  rw [if_neg hw]
  show K ((a.put o.dst undef).put d v) w
  rw [Act.put_comm a (x:=o.dst) (y:=d) undef v (fun t ht hd=>h2 t hd ht)]
  exact h
def nC (T:List TD) (CW:Array Oper) (xs ys:List Nat) (j:Nat) (x:Oper) (i:Nat) (o:Oper):Bool :=
 gA T x.op&&x.apart CW o&&CP x.op&&CP o.op&&(gA T o.op||!qm x.op||(xs.contains i&&ys.contains j))
theorem Good.move {i:Nat} {o:Oper} {B:List (Nat×Oper)} (hR:∀a b c:World,Rel a b→Rel b c→Rel a c) (hQ:∀d v ch a w,Q (.panic ch) (Act.put a d v) w→Q (.panic ch) a w):∀ {A:List (Nat×Oper)} {a:Act} {w:World},
  (∀p∈A,nC C.T ops.toArray xs ys p.1 p.2 i o=true)→Good C ops xs ys Rel Q (A++(i,o)::B) a w→bA C ops xs ys Rel Q i o (Good C ops xs ys Rel Q (A++B)) a w
 | [],a,w,_,h=>h
 | (j,x)::A,a,w,hA,h=>by
  have hb:=hA (j,x) ae
  simp only [nC,Bool.and_eq_true,Bool.or_eq_true,Bool.not_eq_true',List.contains_iff_mem] at hb
  obtain ⟨⟨⟨⟨hq,Bx⟩,cJ⟩,uA⟩,aL⟩:=hb
  obtain ⟨a1,a2,a3⟩:=Oper.apart_spec Bx
  have Ci:∀cs b,x.op≠.select cs b:=fun cs b e=>by rw [e] at cJ;cases cJ
  have ih:=fun a w h=>Good.move (B:=B) hR hQ (A:=A) (a:=a) (w:=w) (fun p hp=>hA p (by simp [hp])) h
  simp only [List.cons_append,Good] at h
  unfold bA at h
  split at h
  ·rename_i hw
   obtain ⟨v,hv,h⟩:=h
   have h:=bA.wO uA a1 a2 (hQ x.dst v) (ih _ _ h)
   refine bA.mono h fun b w1 ⟨u,hb⟩ uG hg=>?_
   have hev:b.eval=(a.put o.dst u).eval:=by funext z;cases z<;>simp [Act.eval,hb]
   show bA C ops xs ys Rel Q j x (Good C ops xs ys Rel Q (A++B)) b w1
   unfold bA
   rw [hb,wanted_put (fun t ht=>a3 t ht),if_pos hw,if_pos hq,hev,zl Ci (fun t ht=>a3 t ht)]
   refine ⟨v,fun w2 h2=>hv w2 fun hr=>?_,hg⟩
   rcases uG with rfl|⟨B3,hx⟩
   ·exact h2 hr
   ·rcases aL with (hqo|hnr)|⟨hi,hj⟩
    ·simp [hqo] at B3
    ·simp [hr] at hnr
    ·rcases h2 hr with ⟨_,h3⟩|rfl
     ·exact .inl ⟨hj,hR _ _ _ (hx hi) h3⟩
     ·exact .inl ⟨hj,hx hi⟩
  ·rename_i hw
   have h:=bA.wO uA a1 a2 (hQ x.dst undef) (ih _ _ h)
   refine bA.mono h fun b w1 ⟨u,hb⟩ uG hg=>?_
   show bA C ops xs ys Rel Q j x (Good C ops xs ys Rel Q (A++B)) b w1
   unfold bA
   rw [hb,wanted_put (fun t ht=>a3 t ht),if_neg hw]
   exact hg
def lT (o:Oper):List Nat:=(o.after.toList.filter fun e=>Region.binds .any e).map (·.on)
def hH (ops:List Oper):Nat→Nat→List Nat
 | 0,_=>[]
 | n+1,i=>match ops[i]? with
  | some o=>lT o++(lT o).flatMap (hH ops n)
  | none=>[]
def ku (ops:List Oper):List Nat→Bool
 | []=>true
 | i::r=>(match ops[i]? with
  | some o=>(lT o).all fun j=>decide (j<ops.length)&&!(i::r).contains j
  | none=>false)&&ku ops r
def kX (T:List TD) (ops:List Oper) (xs ys:List Nat):List Nat→Bool
 | []=>true
 | x::r=>(match ops[x]? with
  | some ox=>r.all fun i=>(hH ops ops.length i).contains x||(match ops[i]? with
   | some oi=>nC T ops.toArray xs ys x ox i oi
   | none=>false)
  | none=>false)&&kX T ops xs ys r
def qh (T:List TD) (ops:List Oper) (xs ys π:List Nat):Bool :=
 ku ops π&&kX T ops xs ys π&&((List.range ops.length).all fun i=>π.contains i)&&decide (π.length=ops.length)&&decide π.Nodup&&π.all fun i=>decide (i<ops.length)
def iC (ops:List Oper) (l:List Nat):List (Nat×Oper):=l.filterMap fun i=>(ops[i]?).map fun o=>(i,o)
theorem La {A B:List Nat} {i:Nat}:ku ops (A++i::B)=true→ku ops (A++B)=true:=by
 induction A with
 | nil=>intro h;simp only [List.nil_append,ku,Bool.and_eq_true] at h ⊢;exact h.2
 | cons x A ih =>
  intro h
  simp only [List.cons_append,ku,Bool.and_eq_true] at h ⊢
  refine ⟨?_,ih h.2⟩
  have h1:=h.1
  cases ho:ops[x]? with
  | none=>simp [ho] at h1
  | some o =>
   simp only [ho] at h1
   refine List.all_eq_true.2 fun j hj=>?_
   have:=List.all_eq_true.1 h1 j hj
   simp only [Bool.and_eq_true,decide_eq_true_eq,Bool.not_eq_true',←Bool.not_eq_true,List.contains_iff_mem,List.mem_cons,List.mem_append,not_or] at this ⊢
   exact ⟨this.1,this.2.1,this.2.2.1,this.2.2.2.2⟩
theorem TR {A B:List Nat} {i:Nat}:kX C.T ops xs ys (A++i::B)=true→kX C.T ops xs ys (A++B)=true:=by
 induction A with
 | nil=>intro h;simp only [List.nil_append,kX,Bool.and_eq_true] at h ⊢;exact h.2
 | cons x A ih =>
  intro h
  simp only [List.cons_append,kX,Bool.and_eq_true] at h ⊢
  refine ⟨?_,ih h.2⟩
  have h1:=h.1
  cases ho:ops[x]? with
  | none=>simp [ho] at h1
  | some o =>
   simp only [ho] at h1
   refine List.all_eq_true.2 fun j hj=>List.all_eq_true.1 h1 j ?_
   simp only [List.mem_append,List.mem_cons] at hj ⊢
   rcases hj with hj|hj
   ·exact .inl hj
   ·exact .inr (.inr hj)
theorem TS {A B:List Nat} {i:Nat} {o:Oper} (ho:ops[i]?=some o) (h:kX C.T ops xs ys (A++i::B)=true) (hn:∀x∈A,x∉hH ops ops.length i) :
  ∀p∈iC ops A,nC C.T ops.toArray xs ys p.1 p.2 i o=true:=by
 induction A with
 | nil=>intro p hp;simp [iC] at hp
 | cons x A ih =>
  intro p hp
  simp only [List.cons_append,kX,Bool.and_eq_true] at h
  have h1:=h.1
  split at h1
  ·rename_i ox Ra
   simp only [iC,List.filterMap_cons,Ra,Option.map_some,List.mem_cons] at hp
   rcases hp with rfl|hp
   ·have:=List.all_eq_true.1 h1 i ae
    simp only [ho,Bool.or_eq_true,List.contains_iff_mem] at this
    exact this.resolve_left (hn x ae)
   ·exact ih h.2 (fun y hy=>hn y (by simp [hy])) p hp
  ·cases h1
theorem ER {listed:Array Bool} (hcl:∀i o,ops[i]?=some o→listed.getD i true=true→∀j∈lT o,listed.getD j false=true) (hlt:∀j,listed.getD j false=true→listed.getD j true=true) :
  ∀n i o,ops[i]?=some o→(∀j∈lT o,listed.getD j false=true)→∀x∈hH ops n i,listed.getD x false=true:=by
 intro n
 induction n with
 | zero=>intro i o _ _ x hx;simp [hH] at hx
 | succ n ih =>
  intro i o ho hp x hx
  simp only [hH,ho,List.mem_append,List.mem_flatMap] at hx
  rcases hx with hx|⟨j,hj,hx⟩
  ·exact hp x hx
  ·cases kP:ops[j]? with
   | none=>cases n<;>simp [hH,kP] at hx
   | some oj=>exact ih j oj kP (hcl j oj kP (hlt j (hp j hj))) x hx
theorem sy {listed:Array Bool} {i:Nat}:i∈Region.ready .any ops.toArray listed↔∃o,ops[i]?=some o∧listed.getD i true=false∧∀j∈lT o,listed.getD j false=true:=by
 simp only [Region.ready,List.mem_filter,List.mem_range,List.size_toArray,Bool.and_eq_true,Bool.not_eq_true']
 constructor
 ·rintro ⟨hlt,h1,h2⟩
  have ho:ops.toArray[i]?=some ops[i]:=by simp [hlt]
  rw [ho] at h2
  simp only [Option.map_some,Option.getD_some,Array.all_eq_true'] at h2
  refine ⟨ops[i],by simp [hlt],h1,fun j hj=>?_⟩
  simp only [lT,List.mem_map,List.mem_filter] at hj
  obtain ⟨e,⟨he,hb⟩,rfl⟩:=hj
  have:=h2 e (by simpa using he)
  simpa [hb] using this
 ·rintro ⟨o,ho,h1,h2⟩
  have hlt:i<ops.length:=(List.getElem?_eq_some_iff.1 ho).1
  refine ⟨hlt,h1,?_⟩
  have gP:ops.toArray[i]?=some o:=by simpa using ho
  rw [gP]
  simp only [Option.map_some,Option.getD_some,Array.all_eq_true']
  intro e he
  cases hb:Region.binds .any e with
  | false=>simp
  | true =>
   have:=h2 e.on (by simp only [lT,List.mem_map,List.mem_filter];exact ⟨e,⟨by simpa using he,hb⟩,rfl⟩)
   simp only [Bool.not_true,Bool.false_or]
   exact this
theorem LW (A B:List Nat):iC ops (A++B)=iC ops A++iC ops B:=by simp [iC]
theorem Ex {i:Nat} {o:Oper} (ho:ops[i]?=some o) (B:List Nat):iC ops (i::B)=(i,o)::iC ops B:=by simp [iC,ho]
theorem Good.any (Br:∀a b c:World,Rel a b→Rel b c→Rel a c) (hQ:∀d v ch a w,Q (.panic ch) (Act.put a d v) w→Q (.panic ch) a w):∀(fuel:Nat) (R:List Nat) (listed:Array Bool) (a:Act) (w:World),R.length≤fuel→R.Nodup→listed.size=ops.length →
  (∀i,i<ops.length→(listed.getD i true=false↔i∈R))→(∀i∈R,i<ops.length)→(∀i o,ops[i]?=some o→listed.getD i true=true→∀j∈lT o,listed.getD j false=true) →
  ku ops R=true→kX C.T ops xs ys R=true→Good C ops xs ys Rel Q (iC ops R) a w→wpAnyIn (Fr C.r) 0 C.P .any ops.toArray Q fuel listed a w:=by
 intro fuel
 induction fuel with
 | zero =>
  intro R listed a w hl ed hsz hR hlt hcl ht hp h
  have:R=[]:=List.eq_nil_of_length_eq_zero aa
  subst this
  refine ⟨?_,h⟩
  rw [List.eq_nil_iff_forall_not_mem]
  intro i hi
  obtain ⟨o,ho,h1,_⟩:=sy.1 hi
  exact absurd ((hR i (List.getElem?_eq_some_iff.1 ho).1).1 h1) ae
 | succ fuel ih =>
  intro R listed a w hl ed hsz hR hlt hcl ht hp h
  have ui:∀j,j<ops.length→listed.getD j false=listed.getD j true:=by
   intro j hj
   have:j<listed.size:=aa
   simp [Array.getD,this]
  have uj:∀j,listed.getD j false=true→listed.getD j true=true:=by
   intro j hj
   by_cases hlt:j<listed.size
   ·simpa [Array.getD,hlt] using hj
   ·simp [Array.getD,hlt] at hj
  refine ⟨fun B1=>?_,fun i hi=>?_⟩
  ·cases R with
   | nil=>exact h
   | cons x R =>
    exfalso
    simp only [ku,Bool.and_eq_true] at ht
    have hx:x∈Region.ready .any ops.toArray listed:=by
     have h1:=ht.1
     split at h1
     ·rename_i o ho
      refine sy.2 ⟨o,ho,(hR x (hlt x ae)).2 ae,fun j hj=>?_⟩
      have:=List.all_eq_true.1 h1 j hj
      simp only [Bool.and_eq_true,decide_eq_true_eq,Bool.not_eq_true',←Bool.not_eq_true,List.contains_iff_mem] at this
      rw [ui j this.1]
      cases hv:listed.getD j true with
      | true=>rfl
      | false=>exact absurd ((hR j this.1).1 hv) this.2
     ·cases h1
    rw [B1] at hx
    simp at hx
  ·obtain ⟨o,ho,h1,h2⟩:=sy.1 hi
   have BQ:=(List.getElem?_eq_some_iff.1 ho).1
   have BP:=(hR i BQ).1 h1
   obtain ⟨A,B,rfl⟩:=List.append_of_mem BP
   have hna:∀x∈A,x∉hH ops ops.length i:=by
    intro x hx hc
    have hxl:=ER hcl uj ops.length i o ho h2 x hc
    have Cp:=hlt x (by simp [hx])
    have:=(hR x Cp).2 (by simp [hx])
    rw [uj x hxl] at this
    cases this
   rw [LW,Ex ho] at h
   have hm:=Good.move Br hQ (TS ho hp hna) h
   rw [←LW] at hm
   refine wpOpIn_mono (fun a1 w1 hg=>?_) (bA.sound ho hm)
   have uv:i∉A++B:=by
    have:=ed
    rw [List.nodup_append] at this
    intro hc
    rcases List.mem_append.1 hc with hc|hc
    ·exact this.2.2 i hc i ae rfl
    ·exact (List.nodup_cons.1 this.2.1).1 hc
   have mM:∀j d,(listed.setIfInBounds i true).getD j d=if i=j then true else listed.getD j d:=by
    intro j d
    by_cases hj:j<listed.size
    ·by_cases e:i=j
     ·subst e;simp [Array.getD,hj]
     ·simp [Array.getD,hj,e]
    ·by_cases e:i=j
     ·subst e;omega
     ·simp [Array.getD,hj,e]
   refine ih (A++B) _ a1 w1 (by simp at hl ⊢;omega) ?_ (by simpa using hsz) ?_ ?_ ?_ (La ht) (TR hp) hg
   ·have:=ed
    rw [List.nodup_append] at this ⊢
    refine ⟨this.1,(List.nodup_cons.1 this.2.1).2,fun x hx y hy=>this.2.2 x hx y (by simp [hy])⟩
   ·intro j hj
    rw [mM]
    by_cases e:i=j
    ·subst e;simp only [if_true];exact ⟨fun h=>(by cases h),fun h=>absurd h uv⟩
    ·rw [if_neg e,hR j hj]
     simp only [List.mem_append,List.mem_cons]
     constructor
     ·rintro (h|h|h)
      ·exact .inl h
      ·exact absurd h.symm e
      ·exact .inr h
     ·rintro (h|h)
      ·exact .inl h
      ·exact .inr (.inr h)
   ·intro j hj
    refine hlt j ?_
    simp only [List.mem_append,List.mem_cons] at hj ⊢
    rcases hj with hj|hj
    ·exact .inl hj
    ·exact .inr (.inr hj)
   ·intro j oj kP pR k hk
    rw [mM] at pR ⊢
    by_cases e:i=j
    ·subst e
     rw [ho] at kP
     cases kP
     have:=h2 k hk
     split
     ·rfl
     ·exact this
    ·rw [if_neg e] at pR
     have:=hcl j oj kP pR k hk
     split
     ·rfl
     ·exact this
def iP (i:Nat):List Nat→Bool
 | []=>false
 | j::r=>match Nat.beq i j with|true=>true|false=>iP i r
theorem mS {i:Nat} {l:List Nat}:iP i l=true↔i∈l:=by
 induction l with
 | nil=>simp [iP]
 | cons j r ih =>
  simp only [iP,List.mem_cons]
  cases e:Nat.beq i j with
  | true=>simp [Nat.eq_of_beq_eq_true e]
  | false=>simp only [ih];exact ⟨.inr,fun h=>h.resolve_left (Nat.ne_of_beq_eq_false e)⟩
def rZ:List Oper→Nat→(Oper→Prop)→Prop
 | [],_,_=>False
 | o::_,0,k=>k o
 | _::r,i+1,k=>rZ r i k
theorem yC {l:List Oper} {i:Nat} {k:Oper→Prop} (h:rZ l i k):∃o,l[i]?=some o∧k o:=by
 induction l generalizing i with
 | nil=>exact h.elim
 | cons o r ih =>
  cases i with
  | zero=>exact ⟨o,rfl,h⟩
  | succ i=>obtain ⟨o',h1,h2⟩:=ih h;exact ⟨o',h1,h2⟩
def A0 (b:Bool) (w w':World) (K:Prop):Prop:=match b with|true=>Ext w w'∧K|false=>K
theorem wZ {b:Bool} {w w':World} {K:Prop} (h:A0 b w w' K):(b=true→Ext w w')∧K:=by
 cases b with
 | true=>exact ⟨fun _=>h.1,h.2⟩
 | false=>exact ⟨fun h=>(by cases h),h⟩
end
abbrev ky:=Env→World→(Env→World→Prop)→(List PanicEntry→World→Prop)→Prop
def r9 (C:Cx) (ops:List Oper) (xs:List Nat) (i:Nat) (_:List Nat) (r:ky):ky:=fun env w K Z=>rZ ops i fun o=>nN ops env o.guard
   (fun au=>iB C o.op o.type au w (fun v w'=>A0 (iP i xs) w w' (iU C.n o.dst v au fun bQ=>r bQ w' K Z)) Z)
   (fun au=>iU C.n o.dst undef au fun bQ=>r bQ w K Z)
noncomputable def qE (C:Cx) (ops:List Oper) (xs:List Nat) (l:List Nat):ky:=List.rec (motive:=fun _=>ky) yD (r9 C ops xs) l
theorem XS {C:Cx} {ops:List Oper} {xs:List Nat} {i:Nat} {rest:List Nat} {env:Env} {w:World} {K:Env→World→Prop} {Z:List PanicEntry→World→Prop}:qE C ops xs (i::rest) env w K Z=rZ ops i fun o=>nN ops env o.guard
   (fun au=>iB C o.op o.type au w (fun v w'=>A0 (iP i xs) w w' (iU C.n o.dst v au fun bQ=>qE C ops xs rest bQ w' K Z)) Z)
   (fun au=>iU C.n o.dst undef au fun bQ=>qE C ops xs rest bQ w K Z):=rfl
theorem zJ {C:Cx} (hT:aQ C.P C.T) {o:Oper} {env:Env} {a:Act} (hs:Sat env a.tmps) {w:World} {k:Value→World→Prop} {Z:List PanicEntry→World→Prop} (hq:gA C.T o.op=true)
  (h:iB C o.op o.type env w k Z):∃v,(∀w1,(qm o.op=true→Ext w w1)→(Oper.semAt C.r a.eval o).run C.P w1=.ok (.value v) w1)∧k v w:=by
 obtain ⟨v,hk,hu⟩:=XU hq w k h
 refine ⟨v,fun w1 he=>?_,hk⟩
 have h1:=hu w1 (fun u w2=>u=v∧w2=w1) he ⟨rfl,rfl⟩
 rcases Ew hT hs h1 with ⟨s,h2,u,w',hr,rfl,rfl⟩|⟨hf,_⟩|⟨hf,_⟩|⟨hf,_⟩|⟨hf,_⟩
 ·rw [h2];simp [hr]
 ·simp [hq] at hf
 ·simp [hq] at hf
 ·simp [hq] at hf
 ·simp [hq] at hf
theorem zF {C:Cx} (hT:aQ C.P C.T) {ops:List Oper} {xs ys:List Nat} {Q:Exit→Act→World→Prop} {K:Env→World→Prop} {Z:List PanicEntry→World→Prop} {ds:List Deferred}
  (hQ:∀env (a:Act) w,Sat env a.tmps→a.tmps.size=C.n→a.defers=ds→K env w→Q .normal a w) (hZ:∀(a:Act) w ch,a.tmps.size=C.n→a.defers=ds→Z ch w→Q (.panic ch) a w) :
  ∀ {l:List Nat} {env:Env} {a:Act} {w:World},Sat env a.tmps→a.tmps.size=C.n→a.defers=ds→qE C ops xs l env w K Z→Good C ops xs ys Ext Q (iC ops l) a w
 | [],env,a,w,hs,hn,hd,h=>hQ env a w hs hn hd h
 | i::rest,env,a,w,hs,hn,hd,h=>by
  rw [XS] at h
  obtain ⟨o,ho,h⟩:=yC h
  rw [Ex ho]
  simp only [Good,bA]
  rcases rC h hs with ⟨hw,au,hs',h'⟩|⟨hw,au,hs',h'⟩
  ·rw [if_pos hw]
   cases hq:gA C.T o.op with
   | true =>
    rw [if_pos rfl]
    obtain ⟨v,h1,h2⟩:=zJ hT hs' hq h'
    refine ⟨v,fun w1 hr=>h1 w1 fun h=>(hr h).elim (·.2) (fun e=>e ▸ Ext.refl _),?_⟩
    obtain ⟨bQ,h3,h4,h5,h6⟩:=gV (wZ h2).2 hs' hn
    exact zF hT hQ hZ h3 h4 (h5.trans hd) h6
   | false =>
    rw [if_neg ae]
    refine qF hT hs' h' (fun v w' hk=>?_) (fun ch w' hz=>hZ a w' ch hn hd hz)
    obtain ⟨h1,h2⟩:=wZ hk
    refine ⟨fun hi=>h1 (mS.2 hi),?_⟩
    obtain ⟨bQ,h3,h4,h5,h6⟩:=gV h2 hs' hn
    exact zF hT hQ hZ h3 h4 (h5.trans hd) h6
  ·rw [if_neg (by simp [hw])]
   obtain ⟨bQ,h3,h4,h5,h6⟩:=gV h' hs' hn
   exact zF hT hQ hZ h3 h4 (h5.trans hd) h6
structure sX (w w1:World):Prop where
 heap:w1.heap=w.heap
 ext:Ext w w1
theorem Ge {C:Cx} (hT:aQ C.P C.T) (hm:C.P.follows .mixedOrders=true) {id:Nat} {ops:Array Oper} {env:Env} {ds:List Deferred} {w:World} {Q:dU} (xs π:List Nat)
  (hok:qh C.T ops.toList xs π π=true)
  (h:∀w1,sX w w1→qE C ops.toList xs π env w1 (fun au w'=>iT au C.live fun e'=>Q .normal e' ds w') (fun ch w'=>Q (.panic ch) [] ds w')) :
  aB C (.region id ops true) env ds w Q:=by
 refine ⟨fun a hs hn hd=>?_⟩
 simp only [qh,Bool.and_eq_true,decide_eq_true_eq] at hok
 obtain ⟨⟨⟨⟨⟨ht,hp⟩,hall⟩,hlen⟩,pT⟩,pS⟩:=hok
 have hmem:∀i,i<ops.toList.length→i∈π:=fun i hi=>by simpa using List.all_eq_true.1 hall i (by simpa using hi)
 have key:=h { w with drawn:=w.drawn+1 } ⟨rfl,rfl,rfl,rfl,Nat.le_refl _,fun _ _=>rfl⟩
 let Q':Exit→Act→World→Prop:=fun e a' w'=>a'.tmps.size=C.n∧match e with
  | .panic ch=>Q (.panic ch) [] a'.defers w'
  | e=>∃au,Sat au a'.tmps∧Q e au a'.defers w'
 refine wpIn_mono (Q:=Q') ?_ (fun e a' w' hq=>?_)
 ·refine wpIn_region_any hm ?_
  have hg:Good C ops.toList xs π Ext Q' (iC ops.toList π) a { w with drawn:=w.drawn+1 }:=by
   refine zF hT (ds:=ds) (fun au a' w' h1 h2 h3 h4=>?_) (fun a' w' ch h1 h2 h3=>?_) hs hn hd key
   ·obtain ⟨e',h5,h6⟩:=lU h4
    exact ⟨h2,e',fun t v ht=>h1 t v (h5 t v ht),h3 ▸ h6⟩
   ·exact ⟨h1,h2 ▸ h3⟩
  have hlt:∀i∈π,i<ops.toList.length:=fun i hi=>by simpa using List.all_eq_true.1 pS i hi
  have:=Good.any (C:=C) (ops:=ops.toList) (xs:=xs) (ys:=π) (Rel:=Ext) (Q:=Q') (fun _ _ _ h k=>Ext.trans h k) (fun d v ch a w hq=>by
   obtain ⟨h1,h2⟩:=hq
   refine ⟨?_,?_⟩
   ·cases d<;>simpa [Act.put] using h1
   ·cases d<;>exact h2) ops.size π (Array.replicate ops.size false) a { w with drawn:=w.drawn+1 } (by simp [hlen]) pT ae (fun i hi=>?_) hlt (fun i o ho hl=>?_) ht hp hg
  ·simpa using this
  ·have:i<ops.size:=by simpa using hi
   simp [Array.getD,this,hmem i hi]
  ·have:i<ops.size:=by simpa using (List.getElem?_eq_some_iff.1 ho).1
   simp [Array.getD,this] at hl
 ·obtain ⟨h1,h2⟩:=hq
  cases e with
  | panic ch=>exact ⟨h1,[],Sat.nil _,h2⟩
  | _=>exact ⟨h1,h2⟩
structure dD (X:List Nat) (w w':World):Prop where
 size:w.heap.size≤w'.heap.size
 block:∀j,j<w.heap.size→j∉X→w'.heap[j]?=w.heap[j]?
theorem dD.trans {X:List Nat} {a b c:World} (h:dD X a b) (k:dD X b c):dD X a c :=
 ⟨Nat.le_trans h.size k.size,fun j hj hx=>(k.block j (Nat.lt_of_lt_of_le hj h.size) hx).trans (h.block j hj hx)⟩
theorem dD.vP {X:List Nat} {w w':World} {b:Nat} {l:List Value} {t:TypeId} (h:ml w b l t w') (hb:b∈X):dD X w w' :=
 ⟨by rw [h.size];exact Nat.le_refl _,fun j _ hx=>h.other fun e=>hx (e ▸ hb)⟩
def vC (b:Bool) (S:Prop) (K:Prop):Prop:=match b with|true=>S∧K|false=>K
theorem oJ {b:Bool} {S K:Prop} (h:vC b S K):(b=true→S)∧K:=by
 cases b with
 | true=>exact ⟨fun _=>h.1,h.2⟩
 | false=>exact ⟨fun h=>(by cases h),h⟩
def sb (C:Cx) (Rel:World→World→Prop) (ops:List Oper) (xs ys:List Nat) (i:Nat) (_:List Nat) (r:ky):ky:=fun env w K Z=>rZ ops i fun o=>nN ops env o.guard
   (fun au=>iB C o.op o.type au w (fun v w'=>vC (iP i xs) (Rel w w') (vC (iP i ys) (∀w1,Rel w w1→iB C o.op o.type au w1 (fun v1 w2=>v1=v∧w2=w1) (fun _ _=>False)) (iU C.n o.dst v au fun bQ=>r bQ w' K Z))) Z)
   (fun au=>iU C.n o.dst undef au fun bQ=>r bQ w K Z)
noncomputable def vR (C:Cx) (Rel:World→World→Prop) (ops:List Oper) (xs ys:List Nat) (l:List Nat):ky:=List.rec (motive:=fun _=>ky) yD (sb C Rel ops xs ys) l
theorem XT {C:Cx} {Rel:World→World→Prop} {ops:List Oper} {xs ys:List Nat} {i:Nat} {rest:List Nat} {env:Env} {w:World} {K:Env→World→Prop} {Z:List PanicEntry→World→Prop}:vR C Rel ops xs ys (i::rest) env w K Z=rZ ops i fun o=>nN ops env o.guard
   (fun au=>iB C o.op o.type au w (fun v w'=>vC (iP i xs) (Rel w w') (vC (iP i ys) (∀w1,Rel w w1→iB C o.op o.type au w1 (fun v1 w2=>v1=v∧w2=w1) (fun _ _=>False)) (iU C.n o.dst v au fun bQ=>vR C Rel ops xs ys rest bQ w' K Z))) Z)
   (fun au=>iU C.n o.dst undef au fun bQ=>vR C Rel ops xs ys rest bQ w K Z):=rfl
theorem LS {C:Cx} (hT:aQ C.P C.T) {o:Oper} {env:Env} {a:Act} (hs:Sat env a.tmps) {w:World} {v:Value} (hq:gA C.T o.op=true)
  (h:iB C o.op o.type env w (fun u w2=>u=v∧w2=w) (fun _ _=>False)):(Oper.semAt C.r a.eval o).run C.P w=.ok (.value v) w:=by
 rcases Ew hT hs h with ⟨s,h2,u,w',hr,rfl,rfl⟩|⟨hf,_⟩|⟨hf,_⟩|⟨hf,_⟩|⟨hf,_⟩
 ·rw [h2];simp [hr]
 ·simp [hq] at hf
 ·simp [hq] at hf
 ·simp [hq] at hf
 ·simp [hq] at hf
theorem zI {C:Cx} (hT:aQ C.P C.T) {Rel:World→World→Prop} {ops:List Oper} {xs ys:List Nat} {Q:Exit→Act→World→Prop} {K:Env→World→Prop} {Z:List PanicEntry→World→Prop} {ds:List Deferred}
  (hQ:∀env (a:Act) w,Sat env a.tmps→a.tmps.size=C.n→a.defers=ds→K env w→Q .normal a w) (hZ:∀(a:Act) w ch,a.tmps.size=C.n→a.defers=ds→Z ch w→Q (.panic ch) a w) :
  ∀ {l:List Nat} {env:Env} {a:Act} {w:World},Sat env a.tmps→a.tmps.size=C.n→a.defers=ds→vR C Rel ops xs ys l env w K Z→Good C ops xs ys Rel Q (iC ops l) a w
 | [],env,a,w,hs,hn,hd,h=>hQ env a w hs hn hd h
 | i::rest,env,a,w,hs,hn,hd,h=>by
  rw [XT] at h
  obtain ⟨o,ho,h⟩:=yC h
  rw [Ex ho]
  simp only [Good,bA]
  rcases rC h hs with ⟨hw,au,hs',h'⟩|⟨hw,au,hs',h'⟩
  ·rw [if_pos hw]
   cases hq:gA C.T o.op with
   | true =>
    rw [if_pos rfl]
    obtain ⟨v,h1,h2⟩:=zJ hT hs' hq h'
    obtain ⟨_,h2⟩:=oJ h2
    obtain ⟨hst,h2⟩:=oJ h2
    refine ⟨v,fun w1 hr=>?_,?_⟩
    ·cases aL:qm o.op with
     | false=>exact h1 w1 fun h=>by simp [aL] at h
     | true =>
      rcases hr aL with ⟨hi,Cd⟩|rfl
      ·exact LS hT hs' hq (hst (mS.2 hi) w1 Cd)
      ·exact h1 w1 fun _=>Ext.refl _
    ·obtain ⟨bQ,h3,h4,h5,h6⟩:=gV h2 hs' hn
     exact zI hT hQ hZ h3 h4 (h5.trans hd) h6
   | false =>
    rw [if_neg ae]
    refine qF hT hs' h' (fun v w' hk=>?_) (fun ch w' hz=>hZ a w' ch hn hd hz)
    obtain ⟨h1,h2⟩:=oJ hk
    refine ⟨fun hi=>h1 (mS.2 hi),?_⟩
    obtain ⟨bQ,h3,h4,h5,h6⟩:=gV (oJ h2).2 hs' hn
    exact zI hT hQ hZ h3 h4 (h5.trans hd) h6
  ·rw [if_neg (by simp [hw])]
   obtain ⟨bQ,h3,h4,h5,h6⟩:=gV h' hs' hn
   exact zI hT hQ hZ h3 h4 (h5.trans hd) h6
theorem nK {C:Cx} (hT:aQ C.P C.T) (hm:C.P.follows .mixedOrders=true) {id:Nat} {ops:Array Oper} {env:Env} {ds:List Deferred} {w:World} {Q:dU} (Rel:World→World→Prop) (hR:∀a b c:World,Rel a b→Rel b c→Rel a c) (xs ys π:List Nat)
  (hok:qh C.T ops.toList xs ys π=true)
  (h:∀w1,sX w w1→vR C Rel ops.toList xs ys π env w1 (fun au w'=>iT au C.live fun e'=>Q .normal e' ds w') (fun ch w'=>Q (.panic ch) [] ds w')) :
  aB C (.region id ops true) env ds w Q:=by
 refine ⟨fun a hs hn hd=>?_⟩
 simp only [qh,Bool.and_eq_true,decide_eq_true_eq] at hok
 obtain ⟨⟨⟨⟨⟨ht,hp⟩,hall⟩,hlen⟩,pT⟩,pS⟩:=hok
 have hmem:∀i,i<ops.toList.length→i∈π:=fun i hi=>by simpa using List.all_eq_true.1 hall i (by simpa using hi)
 have key:=h { w with drawn:=w.drawn+1 } ⟨rfl,rfl,rfl,rfl,Nat.le_refl _,fun _ _=>rfl⟩
 let Q':Exit→Act→World→Prop:=fun e a' w'=>a'.tmps.size=C.n∧match e with
  | .panic ch=>Q (.panic ch) [] a'.defers w'
  | e=>∃au,Sat au a'.tmps∧Q e au a'.defers w'
 refine wpIn_mono (Q:=Q') ?_ (fun e a' w' hq=>?_)
 ·refine wpIn_region_any hm ?_
  have hg:Good C ops.toList xs ys Rel Q' (iC ops.toList π) a { w with drawn:=w.drawn+1 }:=by
   refine zI hT (ds:=ds) (fun au a' w' h1 h2 h3 h4=>?_) (fun a' w' ch h1 h2 h3=>?_) hs hn hd key
   ·obtain ⟨e',h5,h6⟩:=lU h4
    exact ⟨h2,e',fun t v ht=>h1 t v (h5 t v ht),h3 ▸ h6⟩
   ·exact ⟨h1,h2 ▸ h3⟩
  have hlt:∀i∈π,i<ops.toList.length:=fun i hi=>by simpa using List.all_eq_true.1 pS i hi
  have:=Good.any (C:=C) (ops:=ops.toList) (xs:=xs) (ys:=ys) (Rel:=Rel) (Q:=Q') hR (fun d v ch a w hq=>by
   obtain ⟨h1,h2⟩:=hq
   refine ⟨?_,?_⟩
   ·cases d<;>simpa [Act.put] using h1
   ·cases d<;>exact h2) ops.size π (Array.replicate ops.size false) a { w with drawn:=w.drawn+1 } (by simp [hlen]) pT ae (fun i hi=>?_) hlt (fun i o ho hl=>?_) ht hp hg
  ·simpa using this
  ·have:i<ops.size:=by simpa using hi
   simp [Array.getD,this,hmem i hi]
  ·have:i<ops.size:=by simpa using (List.getElem?_eq_some_iff.1 ho).1
   simp [Array.getD,this] at hl
 ·obtain ⟨h1,h2⟩:=hq
  cases e with
  | panic ch=>exact ⟨h1,[],Sat.nil _,h2⟩
  | _=>exact ⟨h1,h2⟩
structure Sl where
 a:Option Addr
 len:Nat
 cap:Nat
abbrev Sl.v (s:Sl):Value:=.slice s.a s.len s.cap
structure By (w:World) (s:Sl) (l:List UInt8):Prop where
 len:s.len=l.length
 cells:Cells w s.a (l.map bv)
 cap:s.len≤s.cap
theorem Cells.sub {w:World} {a:Option Addr} {l:List Value} (h:Cells w a l) {i m b:Nat} (sz:Nat) (hm:b≤m) (hi:i≤b):Cells w (aD a i m sz) ((l.take (b*sz)).drop (i*sz)):=by
 by_cases hn:(l.take (b*sz)).drop (i*sz)=[]
 ·rw [hn];exact ⟨fun h=>absurd rfl h,fun j v hj=>by simp at hj⟩
 have hl:l≠[]:=by intro e;subst e;simp at hn
 have QJ:m≠i:=by
  intro e
  have:b=i:=aa
  subst this
  exact hn (List.drop_eq_nil_of_le (by simp;omega))
 refine ⟨fun _=>qy (h.1 hl),fun j v hj=>?_⟩
 rw [qw,qx (h.1 hl) QJ,Nat.add_assoc]
 rw [List.getElem?_drop,List.getElem?_take] at hj
 split at hj
 ·exact h.2 _ v hj
 ·cases hj
abbrev iv (x:Int):Value:=.int .i64 x
theorem bD.bt {w:World} {b:Nat} {l:List Value} {t:TypeId} (h:bD w b l t) {i:Nat} {u:Value} (hu:l[i]?=some u):w.cell? ⟨b,i,none⟩=some u:=(h.cell i).trans hu
structure Row (w:World) (s:Sl) (e:TypeId) (sz:Nat) (xs:List Value):Prop where
 len:xs.length=s.len*sz
 at_:(s.a=none∧s.len=0∧s.cap=0)∨∃b cur,s.a=some ⟨b,0,none⟩∧jQ w b cur e∧s.len≤s.cap∧s.cap≤maxLen∧cur.size=s.cap*sz∧cur.toList.take (s.len*sz)=xs
theorem Row.nil (w:World) (e:TypeId) (sz:Nat):Row w ⟨none,0,0⟩ e sz []:=⟨ae,.inl ⟨rfl,rfl,rfl⟩⟩
theorem Row.yp {w:World} {b n:Nat} {l:List Value} {e:TypeId} {sz:Nat} (h:bD w b l e) (hl:l.length=n*sz) (hn:n≤maxLen):Row w ⟨some ⟨b,0,none⟩,n,n⟩ e sz l :=
 ⟨hl,.inr ⟨b,l.toArray,rfl,h.f,Nat.le_refl _,hn,by simpa using hl,by simp [←hl]⟩⟩
theorem Row.cells {w:World} {s:Sl} {e:TypeId} {sz:Nat} {xs:List Value} (h:Row w s e sz xs):Cells w s.a xs:=by
 rcases h.at_ with ⟨h1,h2,h3⟩|⟨b,cur,h1,h2,h3,h4,h5,h6⟩
 ·have:xs=[]:=List.eq_nil_of_length_eq_zero (by rw [h.len,h2];simp)
  subst this
  exact ⟨fun h=>absurd rfl h,fun j v hj=>by simp at hj⟩
 ·refine ⟨fun _=>by rw [h1];rfl,fun j v hj=>?_⟩
  rw [h1]
  simp only [aN,aI,Nat.zero_add]
  rw [←h6,List.getElem?_take] at hj
  split at hj
  ·rw [h2.cell];simpa using hj
  ·cases hj
theorem Row.tw {w w':World} {s:Sl} {e:TypeId} {sz:Nat} {xs:List Value} (h:Row w s e sz xs) (hb:∀b,s.a=some ⟨b,0,none⟩→w'.heap[b]?=w.heap[b]?):Row w' s e sz xs:=by
 refine ⟨h.len,?_⟩
 rcases h.at_ with h1|⟨b,cur,h1,h2,r⟩
 ·exact .inl h1
 ·exact .inr ⟨b,cur,h1,h2.fw (hb b h1),r⟩
theorem Row.Lh {B:Nat} {w w':World} {s:Sl} {e:TypeId} {sz:Nat} {xs:List Value} (h:Row w s e sz xs) (hb:Tw B w w'):Row w' s e sz xs:=by
 refine ⟨h.len,?_⟩
 rcases h.at_ with h1|⟨b,cur,h1,h2,r⟩
 ·exact .inl h1
 ·obtain ⟨fz,h2,h3⟩:=h2
  exact .inr ⟨b,cur,h1,⟨fz,hb.bt _ _ _ _ h2,h3⟩,r⟩
theorem Row.cap {w:World} {s:Sl} {e:TypeId} {sz:Nat} {xs:List Value} (h:Row w s e sz xs):s.len≤s.cap:=by
 rcases h.at_ with ⟨_,h2,_⟩|⟨_,_,_,_,h3,_⟩
 ·omega
 ·exact h3
theorem Row.lt {w:World} {s:Sl} {e:TypeId} {sz:Nat} {xs:List Value} (h:Row w s e sz xs):s.a≠none→aN s.a<w.heap.size:=by
 intro hn
 rcases h.at_ with ⟨h1,_⟩|⟨b,cur,h1,h2,r⟩
 ·exact absurd h1 hn
 ·rw [h1];exact h2.lt
structure v8 (w:World) (s:Sl) (w':World) (s':Sl):Prop where
 os:w'.os=w.os
 tape:w'.tape=w.tape
 output:w'.output=w.output
 size:w.heap.size≤w'.heap.size
 block:∀c,c<w.heap.size→(s.a=none∨c≠aN s.a)→w'.heap[c]?=w.heap[c]?
 own:s'.a=none∨(s.a≠none∧aN s'.a=aN s.a)∨w.heap.size≤aN s'.a
theorem v8.refl (w:World) (s:Sl):v8 w s w s:=by
 refine ⟨rfl,rfl,rfl,Nat.le_refl _,fun _ _ _=>rfl,?_⟩
 cases h:s.a with
 | none=>exact .inl rfl
 | some p=>exact .inr (.inl ⟨ae,rfl⟩)
theorem Vl {P:Program} {w:World} {t ty e:TypeId} {i:TypeInfo} (ht:P.underlying t=some (.slice e)) (hi:P.info? e=some i) {s x:Sl} (hx:x.len=0) (hle:s.len≤s.cap) :
  (Builtin.append_ #[t,t] ty #[s.v,x.v]).run P w=.ok s.v w:=by
 obtain ⟨sa,sl,sc⟩:=s
 obtain ⟨xa,xl,xc⟩:=x
 simp only at hx hle
 subst hx
 cases sa<;>cases xa<;>simp [Builtin.append_,run_underlying ht,sizeOf,typeInfo,hi,Builtin.lenOf,Builtin.firstCells,loadCells,loadCellsFrom,hle,storeCells]
theorem Vk {P:Program} (w:World) (t ty e:TypeId) (i:TypeInfo) (ht:P.underlying t=some (.slice e)) (hi:P.info? e=some i)
  (g sLen DK:Nat) (cur:Array Value) (fz:Nat×Nat) (hg:w.heap[g]?=some (.cells cur e fz)) (hok:s6 fz cur.size)
  (a:Addr) (m c:Nat) (news:List Value) (hl:news.length=m*i.size) (hnews:∀j u,news[j]?=some u→w.cell? (a.add j)=some u) (h1:∀u∈news,u.oneCell'=true)
  (hroom:sLen+m≤DK) (hfit:sLen*i.size+news.length≤cur.size) :
  (Builtin.append_ #[t,t] ty #[.slice (some ⟨g,0,none⟩) sLen DK,.slice (some a) m c]).run P w =
   .ok (.slice (some ⟨g,0,none⟩) (sLen+m) DK) (w.setRow g (cur.toList.take (sLen*i.size)++news++cur.toList.drop (sLen*i.size+news.length)).toArray):=by
 have hf:=run_firstCells_some (P:=P) w i.size m a m c news hl hnews
 have hst:=DH P g (sLen*i.size) e fz news 0 cur w hg hok (by simpa using hfit) h1
 simp only [Nat.add_zero] at hst
 simp [Builtin.append_,run_underlying ht,sizeOf,typeInfo,hi,Builtin.lenOf,hroom,hf,Addr.add_lit,hst]
theorem MQ {P:Program} {T:List TD} (hT:aQ P T) {t ty e:TypeId} {d de:TD} (hd:T[t]?=some d) (hu:d.under=.slice e) (hde:T[e]?=some de) {z:Value} (hz:de.zero=some z) (hzs:z.cells.size=de.size) (hsz:0<de.size)
  {w:World} {s x:Sl} {xs ys:List Value} (hr:Row w s e de.size xs) (hx:Cells w x.a ys) (hxl:ys.length=x.len*de.size) (h1:∀u∈ys,u.oneCell'=true) (hb:(s.len+x.len)*de.bytes≤140737488355328) (hm:s.len+x.len≤4611686018427387904)
  {k:Value→World→Prop} (hk:∀s' w',Row w' s' e de.size (xs++ys)→s'.len=s.len+x.len→v8 w s w' s'→k s'.v w'):aH P (Builtin.append_ #[t,t] ty #[s.v,x.v]) w k:=by
 have uc:=hT t d hd
 have rH:=hT e de hde
 obtain ⟨i,hi,kK,pL,hi3⟩:=rH.info
 have ht:P.underlying t=some (.slice e):=by
  obtain ⟨d0,q1,q2⟩:=uc.under
  rw [hu] at q2
  cases d0<;>first|(simp_all [bO];done)|(simp only [bO] at q2;split at q2<;>cases q2)
 by_cases hn:x.len=0
 ·have lK:ys=[]:=List.eq_nil_of_length_eq_zero (by rw [hxl,hn];simp)
  subst lK
  have hle:s.len≤s.cap:=by
   rcases hr.at_ with ⟨_,h2,h3⟩|⟨_,_,_,_,h3,_⟩
   ·omega
   ·exact h3
  refine .of (v:=s.v) (w':=w) ?_ (hk s w (by simpa using hr) aa (v8.refl w s))
  exact Vl ht hi hn hle
 ·have lK:ys≠[]:=by
   intro e;subst e
   have:0<x.len*de.size:=Nat.mul_pos aa hsz
   simp at hxl;omega
  have hpl:=hx.1 lK
  have hnews:∀j v,ys[j]?=some v→w.cell? ((⟨aN x.a,aI x.a,none⟩:Addr).add j)=some v:=fun j v hj=>by rw [addr_add];exact hx.2 j v hj
  have Co:x.v=.slice (some ⟨aN x.a,aI x.a,none⟩) x.len x.cap:=by
   show Value.slice x.a x.len x.cap=_
   conv=>lhs;rw [hpl]
  have rN:i.size=de.size:=kK
  have Hu:i.bytes=de.bytes:=pL
  rw [Co]
  have nS:∀old,grownCap w (s.len+x.len) old e≤maxLen:=fun old=>grownCap_le_maxLen w _ old e (by simp only [maxLen];omega)
  have kJ:∀old,s.len+x.len≤grownCap w (s.len+x.len) old e:=fun old=>grownCap_ge w _ old e
  have hlen:(xs++ys).length=(s.len+x.len)*de.size:=by rw [List.length_append,hr.len,hxl,Nat.add_mul]
  have fresh:∀old,k (.slice (some ⟨w.heap.size,0,none⟩) (s.len+x.len) (grownCap w (s.len+x.len) old e))
    (w.drew.alloc (.cells (xs.toArray++ys.toArray++Builtin.zeroCells z.cells (grownCap w (s.len+x.len) old e - (s.len+x.len))) e)):=by
   intro old
   refine hk ⟨some ⟨w.heap.size,0,none⟩,s.len+x.len,grownCap w (s.len+x.len) old e⟩ _ ⟨hlen,.inr ⟨w.heap.size,_,rfl,⟨(0,0),heap_alloc_new w.drew _,.zero _⟩,kJ old,nS old,?_,?_⟩⟩ rfl
    ⟨rfl,rfl,rfl,ae,fun c hc _=>heap_alloc_old w.drew _ c hc,.inr (.inr (Nat.le_refl _))⟩
   ·simp only [Array.size_append,List.size_toArray,size_zeroCells,hzs,hr.len,hxl,←Nat.add_mul]
    congr 1
    have:=kJ old
    omega
   ·simp only [Array.toList_append,List.append_assoc]
    rw [←List.append_assoc,←hlen]
    exact List.take_left
  rcases hr.at_ with ⟨h1',h2,h3⟩|⟨b,cur,h1',h2,h3,h4,h5,h6⟩
  ·have Cq:xs=[]:=List.eq_nil_of_length_eq_zero (by rw [hr.len,h2];simp)
   subst Cq
   have gu:x.len*de.bytes≤140737488355328:=by rw [h2,Nat.zero_add] at hb;exact hb
   have e8:=run_append_nil (P:=P) w t ty e i z ht hi (hi3.trans hz) ⟨aN x.a,aI x.a,none⟩ x.len x.cap ys (by rw [hxl,rN]) hnews aa aa (by rw [Hu];omega)
   have hf:=fresh 0
   simp only [h2,Nat.zero_add,Array.empty_append] at hf
   have pW:s.v=.slice none 0 0:=by show Value.slice s.a s.len s.cap=_;rw [h1',h2,h3]
   rw [pW]
   exact .of e8 hf
  ·have pW:s.v=.slice (some ⟨b,0,none⟩) s.len s.cap:=by show Value.slice s.a s.len s.cap=_;rw [h1']
   rw [pW]
   by_cases hroom:s.len+x.len≤s.cap
   ·have hfit:s.len*i.size+ys.length≤cur.size:=by rw [hxl,h5,rN,←Nat.add_mul];exact Nat.mul_le_mul_right _ hroom
    obtain ⟨fz,h2,hok⟩:=h2
    have e8:=Vk (P:=P) w t ty e i ht hi b s.len s.cap cur fz h2 hok ⟨aN x.a,aI x.a,none⟩ x.len x.cap ys (by rw [hxl,rN]) hnews h1 hroom hfit
    refine .of e8 (hk ⟨some ⟨b,0,none⟩,s.len+x.len,s.cap⟩ _ ⟨hlen,.inr ⟨b,_,rfl,⟨fz,setRow_heap w b cur _ e _ h2,?_⟩,hroom,h4,?_,?_⟩⟩ rfl ⟨rfl,rfl,rfl,ae,fun c _ hc=>setRow_other w b c _ ?_,.inr (.inl ⟨by rw [h1'];simp,by rw [h1']⟩)⟩)
    ·intro j hj
     refine hok j ?_
     simp only [List.size_toArray,List.length_append,List.length_take,List.length_drop,Array.length_toList] at hj
     omega
    ·simp only [List.size_toArray,List.length_append,List.length_take,List.length_drop,Array.length_toList]
     omega
    ·rw [rN,h6,←hlen]
     exact List.take_left
    ·rcases hc with hc|hc
     ·rw [h1'] at hc;cases hc
     ·rw [h1'] at hc;exact hc
   ·have holds:∀j v,xs[j]?=some v→w.cell? ((⟨b,0,none⟩:Addr).add j)=some v:=fun j v hj=>by
     have:=hr.cells.2 j v hj
     rw [h1'] at this
     rw [addr_add];exact this
    have e8:=run_append_grow (P:=P) w t ty e i z ht hi (hi3.trans hz) ⟨b,0,none⟩ s.len s.cap xs (by rw [hr.len,rN]) holds ⟨aN x.a,aI x.a,none⟩ x.len x.cap ys (by rw [hxl,rN]) hnews aa aa (growslice_fits aa (by rw [Hu];exact hb))
    exact .of e8 (fresh s.cap)
theorem bD.cells {w:World} {b:Nat} {l:List Value} {t:TypeId} (h:bD w b l t):Cells w (some ⟨b,0,none⟩) l:=⟨fun _=>rfl,fun j v hj=>by simp only [aN,aI,Nat.zero_add];rw [h.cell];exact hj⟩
theorem VG {P:Program} {T:List TD} (hT:aQ P T) {t e:TypeId} {d de:TD} (hd:T[t]?=some d) (hu:d.under=.slice e) (hde:T[e]?=some de) {z:Value} (hz:de.zero=some z) (hzs:z.cells=#[z]) (hsz:de.size=1)
  {w:World} {kl kc:IntKind} {n c:Int} (hn:0≤n∧n≤c) (hb:(de.bytes:Int)*c≤281474976710656) (hm:c≤4611686018427387904)
  {k:Value→World→Prop} (hk:∀w' b,kx w b (List.replicate c.toNat z) e w'→k (.slice (some ⟨b,0,none⟩) n.toNat c.toNat) w'):aH P (Instr.makeSlice t (.int kl n) (.int kc c)) w k:=by
 have uc:=hT t d hd
 have rH:=hT e de hde
 obtain ⟨i,hi,kK,pL,hi3⟩:=rH.info
 have ht:P.underlying t=some (.slice e):=by
  obtain ⟨d0,q1,q2⟩:=uc.under
  rw [hu] at q2
  cases d0<;>first|(simp_all [bO];done)|(simp only [bO] at q2;split at q2<;>cases q2)
 have e8:=run_make (P:=P) w t e i z ht hi (hi3.trans hz) kl kc n c hn.1 hn.2 (by rw [pL];exact hb) aa
 refine .of e8 (hk _ _ ⟨rfl,?_⟩)
 congr 2
 apply Array.ext
 ·simp [size_madeCells,kK,hsz]
 ·intro j h1 h2
  simp [madeCells,hzs,Nat.mod_one]
def iD (B:Nat) (w w':World):Prop:=∀(j:Nat) (o:Obj),B≤j→w.heap[j]?=some o→(∀c t f,o≠.cells c t f)→w'.heap[j]?=some o
theorem iD.refl (B:Nat) (w:World):iD B w w:=fun _ _ _ h _=>h
structure wb (P:Program) (gf:Nat) (lb:List Value) (xs:List (List Value)) (S:World→Prop):Prop where
 enters:Enters P gf
 out:∀(l:Nat) (W:World) (J:Nat→World→Prop) (Jx:World→Prop),(∀k W,J k W→S W)→(∀k W W',J k W→Ext W W'→J k W')→(∀W W',Jx W→Ext W W'→Jx W') →
  (∀k x W1,xs[k]?=some x→J k W1→tc P l x.toArray W1 fun b W2=>(b=true→J (k+1) W2)∧(b=false→Jx W2))→J 0 W →
  aj P gf (.func (.yield l) #[] #[]::lb).toArray W fun _ W'=>J xs.length W'∨Jx W'
def sr:List Nat→List Value→Env→Env
 | p::ps,v::vs,env=>sr ps vs ((p,v)::env)
 | _,_,env=>env
theorem JK {n:Nat}:∀ {ps:List Nat} {vs:List Value} {env:Env} {tm:Array Value},Sat env tm→tm.size=n→(∀p∈ps,p<n) →
  Sat (sr ps vs env) ((ps.zip vs).foldl (fun t p=>t.setIfInBounds p.1 p.2) tm)∧((ps.zip vs).foldl (fun t p=>t.setIfInBounds p.1 p.2) tm).size=n
 | [],vs,env,tm,hs,hn,_=>by cases vs<;>exact ⟨hs,hn⟩
 | p::ps,[],env,tm,hs,hn,_=>⟨hs,hn⟩
 | p::ps,v::vs,env,tm,hs,hn,hp=>by
  simp only [sr,List.zip_cons_cons,List.foldl_cons]
  exact JK (hs.put (by rw [hn];exact hp p ae) v) (by simpa using hn) (fun q hq=>hp q (by simp [hq]))
def DB (B:Nat) (W:World) (I:World→Prop) (Ix:Code→World→Prop):dU:=fun e _ _ W'=>match e with
 | .normal=>iD B W W'∧I W'
 | .ret=>iD B W W'∧Ix .ret W'
 | .exit id=>iD B W W'∧Ix (.exit id) W'
 | _=>False
theorem JZ {C:Cx} (hT:aQ C.P C.T) (hro:C.r=none) {g:Operand} {ps:Array Tmp} {assign body:Code} {env:Env} {ds:List Deferred} {w:World} {Q:dU} {gf:Nat} {lb:List Value}
  (hg:bf env g fun v=>v=.func (.func gf) #[] lb.toArray) {xs:List (List Value)} {S:World→Prop} (hit:wb C.P gf lb xs S) (hps:∀x∈xs,x.length=ps.size) (hpn:(ps.toList.all fun p=>decide (p<C.n))=true)
  (I:Nat→World→Prop) (Ix:Code→World→Prop) (hI:∀k W W',I k W→Tw w.heap.size W W'→I k W') (hIx:∀c W W',Ix c W→Tw w.heap.size W W'→Ix c W') (hS:∀k W,I k W→S W) (h0:I 0 w)
  (pV:∀l k x W,xs[k]?=some x→I k W→dT { C with r:=some l } assign (sr ps.toList x env) [] W fun e rf ds1 W1=>(match e with
   | .normal=>ds1=[]∧iD w.heap.size W W1∧∀W2,Tw w.heap.size W1 W2→dT { C with r:=some l } body rf [] W2 (DB w.heap.size W2 (I (k+1)) Ix)
   | _=>False))
  (hdone:∀D W,w.heap.size≤D→W.heap[D]?=some (.deferred (some []))→I xs.length W→Q .normal env ({ target:=.collected D,args:=#[] }::ds) W)
  (hstop:∀D c W,w.heap.size≤D→W.heap[D]?=some (.deferred (some []))→Ix c W→dT C c env ({ target:=.collected D,args:=#[] }::ds) W Q) :
  aB C (.rangeFunc g ps assign body) env ds w Q:=by
 refine ⟨fun a hs hn hd=>?_⟩
 have QI:=bF hg hs
 rw [hro]
 refine wpIn_rangeFunc ?_
 intro fn _
 obtain ⟨rec,iJ⟩:∃rec:LoopState→Option Code→Loop,rec=fun st pe=>{ state:=st,pending:=pe,fn,tmps:=a.tmps,params:=ps,assign,body,defers:=w.heap.size }:=⟨_,rfl⟩
 obtain ⟨W1,xw⟩:∃W1,(w.alloc (.deferred (some []))).alloc (.loop (rec .ready none))=W1:=⟨_,rfl⟩
 have xp:W1.heap[w.heap.size+1]?=some (.loop (rec .ready none)):=by
  rw [←xw];have:=heap_alloc_new (w.alloc (.deferred (some []))) (.loop (rec .ready none));rwa [World.size_alloc] at this
 have PT:W1.heap[w.heap.size]?=some (.deferred (some [])):=by
  rw [←xw];exact (Below.heap_alloc _ _ _ ae).trans (heap_alloc_new w _)
 have hE1:Ext w W1:=by rw [←xw];exact ((Below.refl _ w).alloc (Nat.le_refl _) _).alloc ae _
 refine ⟨w.heap.size+1,[{ target:=.collected w.heap.size,args:=#[] }],W1,{ target:=.fn (.func gf) lb.toArray,args:=#[.func (.yield (w.heap.size+1)) #[] #[]] },W1,gf,
  (.func (.yield (w.heap.size+1)) #[] #[]::lb).toArray,W1,?_,?_,fun _ _=>trivial,?_,fun h=>by simp [Fr,Fence.wide] at h,?_⟩
 ·rw [←xw,iJ];exact run_enterLoop_outer _ _ _ _ _
 ·simp only [resolve,QI]
  simp [Deferred.ofValue,go_sem]
 ·have:=hit.enters (.func (.yield (w.heap.size+1)) #[] #[]::lb).toArray W1
  simp only [invoke]
  rw [←this]
  simp
 ·have nd:∀r c t f,Obj.loop r≠.cells c t f:=fun _ _ _ _=>nofun
  have Ja:∀r c t f,Obj.deferred r≠.cells c t f:=fun _ _ _ _=>nofun
  have zw:∀ {W:World} {r:Loop} (o:Obj),W.heap[w.heap.size+1]?=some (.loop r)→Tw w.heap.size W (W.putObj (w.heap.size+1) o):=fun o h=>(Lg h (nd _)).mono aa
  have uS:∀ {W:World} {o:Obj},W.heap[w.heap.size+1]?=some o→w.heap.size+1<W.heap.size:=fun h=>(Array.getElem?_eq_some_iff.1 h).1
  refine tn.2 (Calls.iw (aj.calls hit.enters (hit.out (w.heap.size+1) W1
   (fun k W=>I k W∧W.heap[w.heap.size+1]?=some (.loop (rec .ready none))∧W.heap[w.heap.size]?=some (.deferred (some [])))
   (fun W=>∃c,Ix c W∧W.heap[w.heap.size+1]?=some (.loop (rec .done (some c)))∧W.heap[w.heap.size]?=some (.deferred (some [])))
   (fun k W h=>hS k W h.1) ?_ ?_ ?_ ⟨hI _ _ _ h0 (hE1.tw (Nat.le_refl _)),xp,PT⟩)) ?_)
  ·rintro k W W' ⟨h1,h2,h3⟩ he
   have:=uS h2
   exact ⟨hI _ _ _ h1 (he.tw aa),(he.block _ aa).trans h2,(he.block _ aa).trans h3⟩
  ·rintro W W' ⟨c,h1,h2,h3⟩ he
   have:=uS h2
   exact ⟨c,hIx _ _ _ h1 (he.tw aa),(he.block _ aa).trans h2,(he.block _ aa).trans h3⟩
  ·rintro k x W hx ⟨hi,hl,hk⟩
   have hlt:=uS hl
   have Ry:x∈xs:=List.mem_of_getElem? hx
   have hy:=run_yield (P:=C.P) (args:=x.toArray) hl (by rw [iJ];simpa using hps x Ry)
   rw [iJ] at hy
   have RA:(ps.zip x.toArray).foldl (fun tmps (t,a)=>tmps.setIfInBounds t a) a.tmps=(ps.toList.zip x).foldl (fun t p=>t.setIfInBounds p.1 p.2) a.tmps:=by
    rw [←Array.foldl_toList,Array.toList_zip]
   obtain ⟨hs1,uu⟩:=JK (n:=C.n) (ps:=ps.toList) (vs:=x) hs hn (fun p hp=>by simpa using List.all_eq_true.1 hpn p hp)
   refine ⟨fn,_,assign,body,hy,?_⟩
   simp only [RA]
   refine roundIn_of_wpIn (F:=Fr none) trivial ?_
   have hv:=(ma (C:={ C with r:=some (w.heap.size+1) }) hT (pV (w.heap.size+1) k x W hx hi)).out ⟨_,[]⟩ hs1 uu rfl
   refine wpIn_mono hv ?_
   rintro e a1 Wa ⟨hn2,rf,bM,hq⟩
   cases e with
   | normal =>
    obtain ⟨Qp,HV,hb⟩:=hq
    have BU:=HV _ _ aa hl (nd _)
    have pQ:=HV _ _ aa hk (Ja _)
    have QT:=uS BU
    refine ⟨_,run_beginRound BU (by rw [iJ]),?_⟩
    have hl2:(Wa.putObj (w.heap.size+1) (.loop { rec .ready none with state:=.busy })).heap[w.heap.size+1]?=some (.loop { rec .ready none with state:=.busy }):=World.putObj_heap_same QT
    have eN:(Wa.putObj (w.heap.size+1) (.loop { rec .ready none with state:=.busy })).heap[w.heap.size]?=some (.deferred (some [])):=(World.putObj_heap_other aa).trans pQ
    have hb:=(ma (C:={ C with r:=some (w.heap.size+1) }) hT (hb _ (zw (.loop { rec .ready none with state:=.busy }) BU))).out a1 bM hn2 Qp
    have fin:∀(jump:Option Code) (W3:World),iD w.heap.size (Wa.putObj (w.heap.size+1) (.loop { rec .ready none with state:=.busy })) W3 →
      (Instr.endRound (w.heap.size+1) jump).run C.P W3=.ok (.bool jump.isNone) (W3.putObj (w.heap.size+1) (.loop (rec (if jump.isNone then .ready else .done) jump))) ∧
      Tw w.heap.size W3 (W3.putObj (w.heap.size+1) (.loop (rec (if jump.isNone then .ready else .done) jump))) ∧
      (W3.putObj (w.heap.size+1) (.loop (rec (if jump.isNone then .ready else .done) jump))).heap[w.heap.size+1]?=some (.loop (rec (if jump.isNone then .ready else .done) jump)) ∧
      (W3.putObj (w.heap.size+1) (.loop (rec (if jump.isNone then .ready else .done) jump))).heap[w.heap.size]?=some (.deferred (some [])):=fun jump W3 dH=>by
     have kO:=dH _ _ aa hl2 (nd _)
     have h1:=run_endRound (P:=C.P) jump kO
     have h2:=dH _ _ aa eN (Ja _)
     refine ⟨?_,zw _ kO,World.putObj_heap_same (uS kO),(World.putObj_heap_other aa).trans h2⟩
     rw [iJ] at h1 ⊢
     exact h1
    refine wpIn_mono hb ?_
    rintro e a3 W3 ⟨_,_,_,hp⟩
    cases e with
    | normal =>
     obtain ⟨dH,hi3⟩:=hp
     obtain ⟨hr,ht,hl4,j6⟩:=fin none W3 dH
     exact ⟨_,_,hr,true,rfl,fun _=>⟨hI _ _ _ hi3 ht,hl4,j6⟩,fun h=>by cases h⟩
    | ret =>
     obtain ⟨dH,hi3⟩:=hp
     obtain ⟨hr,ht,hl4,j6⟩:=fin (some .ret) W3 dH
     exact ⟨_,_,hr,false,rfl,fun h=>(by cases h),fun _=>⟨.ret,hIx _ _ _ hi3 ht,hl4,j6⟩⟩
    | exit id =>
     obtain ⟨dH,hi3⟩:=hp
     obtain ⟨hr,ht,hl4,j6⟩:=fin (some (.exit id)) W3 dH
     exact ⟨_,_,hr,false,rfl,fun h=>(by cases h),fun _=>⟨.exit id,hIx _ _ _ hi3 ht,hl4,j6⟩⟩
    | goto t=>exact hp.elim
    | panic ch=>exact hp.elim
    | outgrown=>exact hp.elim
   | _=>exact hq.elim
  ·rintro e W2 ⟨v,rfl,(⟨hi,hl,hk⟩|⟨c,hi,hl,hk⟩)⟩
   ·refine ⟨none,_,by have:=run_endLoop (P:=C.P) hl (by rw [iJ];simp);rw [iJ] at this;exact this,hn,env,hs,?_⟩
    have:=hdone w.heap.size (W2.putObj (w.heap.size+1) (.loop { rec .ready none with state:=.exhausted })) (Nat.le_refl _) ((World.putObj_heap_other aa).trans hk) (hI _ _ _ hi (zw _ hl))
    rw [iJ] at this
    simpa [hd] using this
   ·refine ⟨some c,_,by have:=run_endLoop (P:=C.P) hl (by rw [iJ];simp);rw [iJ] at this;exact this,?_⟩
    have:=hstop w.heap.size c (W2.putObj (w.heap.size+1) (.loop { rec .done (some c) with state:=.exhausted })) (Nat.le_refl _) ((World.putObj_heap_other aa).trans hk) (hIx _ _ _ hi (zw _ hl))
    rw [iJ] at this
    have key:=(ma hT this).out { a with defers:=[{ target:=.collected w.heap.size,args:=#[] }]++a.defers } hs hn (by simp [hd])
    rw [hro] at key
    exact key
end Go.Proofs.YtmoiobegbpkkbaaGreatDoor
