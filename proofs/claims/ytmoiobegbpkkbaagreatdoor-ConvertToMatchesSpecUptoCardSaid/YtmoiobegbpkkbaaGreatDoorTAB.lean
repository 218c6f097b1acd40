import Derived.Test.YtmoiobegbpkkbaaGreatDoorTAA
import Derived.OrdersIn
import Derived.Laws.MakeOwn
import Derived.Lib.AppendStr
open Array renaming getElem?_eq_some_iff->ku,all_eq_true'->WR,length_toList->y9,getElem?_mapIdx->OB
open Bool renaming not_true->BX,true_and->oJ,and_eq_true->eD,or_eq_true->rY,not_eq_true'->BJ,not_eq_true->EZ,false_and->qw
open Go.Act renaming put_comm->OX
open Go.World renaming block_lt_of_cell?->Fh,putObj_heap_other->Fj,putObj_heap_same->ahS
open List renaming range->bZ,all_eq_true->bc,contains_iff_mem->sf,mem_cons->bP,getElem?_eq_some_iff->dH,append_assoc->bj,cons_append->bb,nil_append->aL,mem_map->cJ,length_append->ak,length_take->bg,length_drop->aU,take_left->tD,mem_append->cc,mem_filter->y0,size_toArray->I5,eq_nil_of_length_eq_zero->dt,eq_nil_iff_forall_not_mem->ahP,append_of_mem->E0,nodup_append->rZ,nodup_cons->E1,getElem?_take->BM,replicate->eP,mem_of_getElem?->jX,sublist_cons_self->I7,pairwise_cons->qv,pairwise_iff_getElem->E3
open Nat renaming eq_of_beq_eq_true->qt,ne_of_beq_eq_false->Oy,le_refl->aQ,le_trans->qu,lt_of_lt_of_le->BK,zero_add->dR,add_mul->wE
open Option renaming getD_some->oI,map_some->gQ,map_eq_some_iff->iB
open Option.some renaming injEq->mR
namespace Go.Proofs.YtmoiobegbpkkbaaGreatDoor
open Go Go.RowKit
set_option maxRecDepth 100000
set_option maxHeartbeats 8000000
variable{w w':ad}{a:Option Addr}{l xs:aC}{b sz:Nat}{t e:TypeId}{P:Program}{T:List TD}{C:Cx}{p:Prop}{F:Bool->Prop}
theorem akQ{T:List TD}{t:TypeId}{k:TD->Prop}{d:TD}(hd:T[t]?=some d)(h:k d):fk T t k:=PR.2 ⟨d,hd,h⟩
def di(rd:Bool)(R:ad->(aj->ad->Prop)->Prop):Prop :=
 ∀w k,R w k->∃v,k v w/\∀w1 (k1:aj->ad->Prop),(rd=true->Ext w w1)->k1 v w1->R w1 k1
theorem adq{env:Env}{t:Nat}{R:aj->ad->(aj->ad->Prop)->Prop}{rd:Bool}(h:∀v,di rd (R v)):di rd λw k=>um env t λv=>R v w k:=by intro w k hk;obtain⟨v,hv,hk⟩:=vE.1 hk;obtain⟨u,h1,h2⟩:=h v w k hk;exact⟨u,h1,λw1 k1 he iN=>vE.2 ⟨v,hv,h2 w1 k1 he iN⟩⟩
theorem kF{env:Env}{x:Operand}{R:aj->ad->(aj->ad->Prop)->Prop}{rd:Bool}(h:∀v,di rd (R v)):di rd λw k=>dj env x λv=>R v w k:=by
 cases x with
 | tmp t=>exact adq h
 | const v=>exact h v
 | global g=>exact h _
 | func f=>exact h _
theorem zR{env:Env}{rd:Bool}:∀ {xs:List Operand} {R:aC->ad->(aj->ad->Prop)->Prop},(∀v,di rd (R v))->di rd λw k=>j2 env xs λv=>R v w k
 | [],_,h=>h []
 | _::xs,R,h=>kF (R:=λv w k=>j2 env xs λvs=>R (v::vs) w k) λv=>zR (R:=λvs=>R (v::vs)) λvs=>h (v::vs)
theorem Wq{env:Env}{rd:Bool}:∀ {xs:List (Nat×Operand)} {R:List (Nat×aj)->ad->(aj->ad->Prop)->Prop},(∀v,di rd (R v))->di rd λw k=>BD env xs λv=>R v w k
 | [],_,h=>h []
 | (i,_)::xs,R,h=>kF (R:=λv w k=>BD env xs λvs=>R ((i,v)::vs) w k) λv=>Wq (R:=λvs=>R ((i,v)::vs)) λvs=>h ((i,v)::vs)
theorem je{T:List TD}{t:TypeId}{rd:Bool}{R:TD->ad->(aj->ad->Prop)->Prop}(h:∀d,T[t]?=some d->di rd (R d)):di rd λw k=>fk T t λd=>R d w k:=by intro w k hk;obtain⟨d,hd,hk⟩:=PR.1 hk;obtain⟨u,h1,h2⟩:=h d hd w k hk;exact⟨u,h1,λw1 k1 he iN=>akQ hd (h2 w1 k1 he iN)⟩
theorem fp{rd:Bool}(v:aj):di rd λw k=>k v w:=λ_ _ h=>⟨v,h,λ_ _ _ h=>h⟩
theorem fo{rd:Bool}:di rd λ_ _=>False:=λ_ _ h=>h.elim
theorem lC{rd:Bool}{p:Prop}{R:ad->(aj->ad->Prop)->Prop}(h:di rd R):di rd λw k=>p/\R w k:=by intro w k ⟨hp,hk⟩;obtain⟨v,h1,h2⟩:=h w k hk;exact⟨v,h1,λw1 k1 he iN=>⟨hp,h2 w1 k1 he iN⟩⟩
theorem xN{rd:Bool}{kd:IntKind}{x:Int}:di rd λw k=>pZ kd x λv=>k v w:=by unfold pZ;cases kd<;>first|exact fp _|exact lC (fp _)
theorem Ke{rd:Bool}{R S:ad->(aj->ad->Prop)->Prop}(h1:di rd R)(h2:di rd S):di rd λw k=>R w k\/S w k:=by
 rintro w k(h|h)
 ·obtain⟨v,a,b⟩:=h1 w k h;exact⟨v,a,λw1 k1 he hk=>.inl (b w1 k1 he hk)⟩
 obtain⟨v,a,b⟩:=h2 w k h;exact⟨v,a,λw1 k1 he hk=>.inr (b w1 k1 he hk)⟩
theorem afb{rd:Bool}{op:BinOp}{kd:IntKind}{x y:Int}:di rd λw k=>rL op kd x y λv=>k v w:=by unfold rL;cases op<;>first|exact xN|exact fp _|exact lC (fp _)|exact lC xN|exact Ke (lC xN) (lC xN)|exact Ke (lC (fp _)) (lC (fp _))
theorem aku{rd:Bool}{op:BinOp}{x y:ab}:di rd λw k=>JS op x y λv=>k v w:=by unfold JS;cases op<;>first|exact fp _|exact lC (fp _)|exact fo
theorem SI{rd neg:Bool}{u:pU}{a b:aj}:di rd λw k=>AA neg u a b λv=>k v w:=by unfold AA;split<;>first|exact fp _|exact fo
theorem EN{rd:Bool}{l:aC}{i:Nat}{R:aj->ad->(aj->ad->Prop)->Prop}(h:∀v,di rd (R v)):di rd λw k=>pA l i λv=>R v w k:=by intro w k hk;obtain⟨v,hv,hk⟩:=EM.1 hk;obtain⟨u,h1,h2⟩:=h v w k hk;exact⟨u,h1,λw1 k1 he iN=>EM.2 ⟨v,hv,h2 w1 k1 he iN⟩⟩
theorem X2{rd:Bool}{u:pU}{x y:aj}{R:(p:Prop)->Decidable p->ad->(aj->ad->Prop)->Prop}(h:∀p i,di rd (R p i)):di rd λw k=>zp u x y λp i=>R p i w k:=by
 unfold zp;split
 ·split
  ·exact h _ _
  exact fo
 ·exact h _ _
 ·exact h _ _
 exact fo
theorem Ln{C:Cx}{rd:Bool}{xs ys:aC}:∀ {fs:List (Nat×TypeId)} {R:(p:Prop)->Decidable p->ad->(aj->ad->Prop)->Prop},(∀p i,di rd (R p i))->di rd λw k=>xH C fs xs ys λp i=>R p i w k
 | [],_,h=>h _ _
 | [_],_,h=>je λ_ _=>EN λ_=>EN λ_=>X2 h
 | _::g::r,R,h=>je λ_ _=>EN λ_=>EN λ_=>X2 (R:=λp i w k=>xH C (g::r) xs ys λq j=>R (p/\q) (@instDecidableAnd p q i j) w k) λ_ _=>Ln (fs:=g::r) λ_ _=>h _ _
theorem aaZ{C:Cx}{rd:Bool}{op:BinOp}{t:TypeId}{a b:aj}(hq:∀n e,kE C.T t≠.array n e):di rd λw k=>CO C op t a b w k:=by
 unfold CO;split
 ·split
  ·exact lC xN
  ·exact lC (fp _)
  split<;>first|exact afb|exact fo
 ·exact aku
 ·refine je λd hd=>?_;split
  ·exact Ln λp i=>fp _
  ·exact Ln λp i=>fp _
  ·rename_i n e hu;exact absurd (by simp[kE,hd,hu]) (hq n e)
  exact fo
 split
 ·exact je λd _=>SI
 ·exact je λd _=>SI
 exact fo
theorem abj{rd:Bool}{v:aj}{R:aC->ad->(aj->ad->Prop)->Prop}(h:∀l,di rd (R l)):di rd λw k=>vx v λl=>R l w k:=by unfold vx;split<;>exact h _
theorem Pa{rd:Bool}:∀ {c:aC} {o:Nat} {l:aC} {R:aC->ad->(aj->ad->Prop)->Prop},(∀l,di rd (R l))->di rd λw k=>gS c o l λr=>R r w k
 | c,0,[],R,h=>by cases c<;>exact h _
 | u::c,0,v::l,R,h=>Pa (c:=c) (o:=0) (l:=l) (R:=λr=>R (v::r)) λr=>h _
 | u::c,o+1,l,R,h=>by have:=Pa (rd:=rd) (c:=c) (o:=o) (l:=l) (R:=λr=>R (u::r)) λr=>h _;cases l<;>exact this
 | [],0,v::l,R,h=>fo
 | [],o+1,l,R,h=>by cases l<;>exact fo
theorem SW{C:Cx}{rd:Bool}{fs:List (Nat×TypeId)}:∀ {ps:List (Nat×aj)} {c:aC} {R:aC->ad->(aj->ad->Prop)->Prop},(∀l,di rd (R l))->di rd λw k=>xL C fs ps c λr=>R r w k
 | [],c,R,h=>h _
 | (i,v)::r,c,R,h=>by
  simp only[xL];cases fs[i]? with
  | none=>exact fo
  | some f =>
   refine je λd _=>abj (R:=λl w k=>match Nat.beq l.length d.size with
    | true=>gS c f.1 l λc'=>xL C fs r c' λr=>R r w k
    | false=>False) λl=>?_
   cases Nat.beq l.length d.size with
   | true=>exact Pa λc'=>SW h
   | false=>exact fo
theorem QL{C:Cx}{rd:Bool}:∀ {fs:List (Nat×TypeId)} {R:ad->(aj->ad->Prop)->Prop},di rd R->di rd λw k=>Gt C fs (R w k)
 | [],_,h=>h
 | _::_,_,h=>je λ_ _=>QL h
theorem ue{rd:Bool}{x:Option aj}{d m:Nat}{R:Nat->ad->(aj->ad->Prop)->Prop}(h:∀n,di rd (R n)):di rd λw k=>mw x d m λn=>R n w k:=by
 unfold mw;split
 ·exact h _
 ·exact lC (h _)
 exact fo
theorem Wo{rd:Bool}{d:TD}{off:Nat}{l:aC}:di rd λw k=>BC d off l λv=>k v w:=by
 unfold BC;split
 ·exact fp _
 split
 ·exact fp _
 exact fo
theorem Vo{b:Nat}:∀ {n o:Nat} {R:aC->ad->(aj->ad->Prop)->Prop},(∀l,di true (R l))->di true λw k=>Iu w b n o λl=>R l w k
 | 0,o,R,h=>h _
 | n+1,o,R,h=>by rintro w k⟨v,hv,hk⟩;obtain⟨u,h1,h2⟩:=Vo (b:=b) (n:=n) (o:=o+1) (R:=λl=>R (v::l)) (λl=>h _) w k hk;exact⟨u,h1,λw1 k1 he iN=>⟨v,by rw[(he rfl).cell (Fh _ _ hv)];exact hv,h2 w1 k1 he iN⟩⟩
theorem afG{C:Cx}{t:TypeId}{v:aj}:di true λw k=>we C t v w k:=by
 unfold we;split
 ·rename_i b o;refine je λd _=>?_;cases rM d.under with
  | true =>
   cases Nat.ble d.size 16 with
   | true=>exact Vo (R:=λl w k=>k (.agg l.toArray) w) λl=>fp _
   | false =>rintro w k⟨l,hl,hc,hk⟩;exact⟨_,hk,λw1 k1 he iN=>⟨l,hl,λj v hj=>by have:=hc j v hj;rw[(he rfl).cell (Fh _ _ this)];exact this,iN⟩⟩
  | false =>rintro w k⟨u,hu,hk⟩;exact⟨u,hk,λw1 k1 he iN=>⟨u,by rw[(he rfl).cell (Fh _ _ hu)];exact hu,iN⟩⟩
 exact fo
theorem SS{C:Cx}{rd:Bool}{u:pU}{f:Nat}{R:Nat->TypeId->TD->ad->(aj->ad->Prop)->Prop}(h:∀a b d,di rd (R a b d)):di rd λw k=>AE C u f λa b d=>R a b d w k:=by
 unfold AE;split
 ·split
  ·exact je λdf _=>h _ _ _
  exact fo
 exact fo
theorem acY{C:Cx}{rd:Bool}{t:TypeId}{x:aj}{f:Nat}:di rd λw k=>AD C t x f w k:=by
 unfold AD;split
 ·refine je λd _=>SS λa b df=>?_;split<;>first|exact fo|exact fp _
 exact fo
theorem ac1{C:Cx}{rd:Bool}{t:TypeId}{x:aj}{f:Nat}:di rd λw k=>AF C t x f w k:=by
 unfold AF;split
 ·exact je λd _=>SS λa b df=>Wo
 exact fo
theorem ae1{C:Cx}{rd:Bool}{t:TypeId}{x i:aj}:di rd λw k=>yN C t x i w k:=by
 unfold yN;split
 ·refine je λd _=>?_;split
  ·exact je λde _=>lC (lC (fp _))
  ·exact je λde _=>lC (fp _)
  exact fo
 exact fo
theorem ae8{C:Cx}{rd:Bool}{t:TypeId}{x i:aj}:di rd λw k=>yO C t x i w k:=by
 unfold yO;split
 ·refine je λd _=>?_;split
  ·refine lC ?_;rintro w k⟨c,hc,hk⟩;exact⟨_,hk,λw1 k1 _ iN=>⟨c,hc,iN⟩⟩
  ·exact je λde _=>lC Wo
  exact fo
 exact fo
theorem aj9{C:Cx}{rd:Bool}{t:TypeId}{x:aj}{lo hi mx:Option aj}:di rd λw k=>wT C t x lo hi mx w k:=by
 unfold wT;refine je λd _=>?_;split
 ·split
  ·exact ue λn=>ue λn'=>fp _
  exact fo
 ·refine je λde _=>?_;split
  ·exact ue λn=>ue λn'=>lC (fp _)
  refine ue λn=>?_;split
  ·exact ue λn=>ue λn'=>fp _
  exact fo
 ·refine je λde _=>?_;split
  ·exact ue λn=>ue λn'=>fp _
  exact fo
 exact fo
theorem alF{rd:Bool}{op:UnOp}{x:aj}:di rd λw k=>Cq op x λv=>k v w:=by unfold Cq;split<;>first|exact fp _|exact xN|exact Ke (lC (fp _)) (fp _)|exact fo
theorem abX{C:Cx}{s d:TypeId}{x:aj}(hq:(match kE C.T s,kE C.T d with
  | .int _,.int _=>true
  | .string,.string=>true
  | .slice e,.string=>Eo (kE C.T e)
  | _,_=>false)=true):di true λw k=>GU C s d x w k:=by
 refine je λds hds=>je λdd nr=>?_;have e1:kE C.T s=ds.under:=by simp[kE,hds]
 have e2:kE C.T d=dd.under:=by simp[kE,nr]
 rw[e1,e2]at hq;split
 ·exact Ke (lC (fp _)) (fp _)
 ·exact xN
 ·exact fp _
 ·rename_i e a len cap jn hu2;rw[jn,hu2]at hq;refine je λde hde=>?_;have e3:kE C.T e=de.under:=by simp[kE,hde]
  simp only[e3]at hq;rw[hq];rintro w k⟨l,hl,hc,hk⟩;exact⟨_,hk,λw1 k1 he iN=>⟨l,hl,hc.ext (he rfl),iN⟩⟩
 ·rename_i jn hu2;rw[jn,hu2]at hq;cases hq
 ·rename_i jn hu2;rw[jn,hu2]at hq;cases hq
 ·rename_i jn hu2;rw[jn,hu2]at hq;cases hq
 exact fo
theorem aa8{C:Cx}{rd:Bool}{t:TypeId}{ps:List (Nat×aj)}(hq:(match kE C.T t with|.struct _=>true|_=>false)=true):di rd λw k=>CQ C t ps w k:=by
 unfold CQ;refine je λd hd=>?_;have e1:kE C.T t=d.under:=by simp[kE,hd]
 rw[e1]at hq;unfold Ga;split
 ·dsimp only;split
  ·exact QL (SW (R:=λc' w k=>k (.agg ⟨c'⟩) w) λl=>fp _)
  ·rename_i hu _;rw[hu]at hq;cases hq
  exact fo
 exact fo
theorem afz{C:Cx}{rd:Bool}{t:TypeId}{x:aj}:di rd λw k=>Ip C t x λv=>k v w:=by unfold Ip;refine je λd _=>?_;split<;>first|exact fp _|exact fo
theorem aa1{rd:Bool}{C:Cx}{op:BinOp}{t:TypeId}{y:Operand}{a b:aj}(hq:∀n e,kE C.T t≠.array n e):di rd λw k=>xp C op t y a b w k:=by
 unfold xp;split
 ·refine je λd _=>?_;split<;>first|exact fp _|exact fo
 exact aaZ hq
theorem amn{C:Cx}{op:Op}{ty:TypeId}{env:Env}(hq:mh C.T op=true){Z:List PanicEntry->ad->Prop}:di (zm op) λw k=>nQ C op ty env w k Z:=by
 cases op;case move x=>exact kF (R:=λv w k=>k v w) λv=>fp v
 case assign x=>exact kF (R:=λv w k=>k v w) λv=>fp v
 case pick c a b =>
  refine kF (R:=λv w k=>(match v with
   | .bool t=>mA 0 t λt'=>(match t' with|true=>dj env a λu=>k u w|false=>dj env b λu=>k u w)
   | _=>False)) λv=>?_
  cases v<;>first
   | exact fo
   | (rename_i t
      cases t with
      | true=>exact kF (R:=λv w k=>k v w) λv=>fp v
      | false=>exact kF (R:=λv w k=>k v w) λv=>fp v)
 case load t x=>exact kF (R:=λv w k=>we C t v w k) λv=>afG
 case nilCheck x =>
  refine kF (R:=λv w k=>(match v with
   | .pointer (some a)=>k (.pointer (some a)) w
   | .func (.func f) a b=>k (.func (.func f) a b) w
   | .func (.yield f) a b=>k (.func (.yield f) a b) w
   | .map r=>k (.map r) w
   | .iface t u=>k (.iface t u) w
   | _=>False)) λv=>?_
  split<;>first|exact fp _|exact fo
 case binOp op t x y t2 =>
  refine kF (R:=λa w k=>dj env y λb=>xp C op t y a b w k) λa=>kF (R:=λb w k=>xp C op t y a b w k) λb=>aa1 λn e he=>?_;have:mh C.T (.binOp op t x y t2)=(match kE C.T t with|.array _ _=>false|_=>true):=rfl;rw[this,he]at hq;cases hq
 case unOp op t x=>exact kF (R:=λa w k=>Cq op a λv=>k v w) λa=>alF
 case convert s d x=>exact kF (R:=λa w k=>GU C s d a w k) λa=>abX hq
 case makeFunc fn first captured =>
  cases fn<;>first
   | exact zR (R:=λa w k=>j2 env captured.toList λb=>k (.func (.func _) a.toArray b.toArray) w) λa=>zR (R:=λb w k=>k (.func (.func _) a.toArray b.toArray) w) λb=>fp _
   | cases hq
 case fieldAddr t x f=>exact kF (R:=λa w k=>AD C t a f w k) λa=>acY
 case field t x f=>exact kF (R:=λa w k=>AF C t a f w k) λa=>ac1
 case indexAddr t x i=>exact kF (R:=λa w k=>dj env i λj=>yN C t a j w k) λa=>kF (R:=λj w k=>yN C t a j w k) λj=>ae1
 case index t x i=>exact kF (R:=λa w k=>dj env i λj=>yO C t a j w k) λa=>kF (R:=λj w k=>yO C t a j w k) λj=>ae8
 case extract x i =>
  refine kF (R:=λa w k=>Df a i w k) λa=>?_;unfold Df;split
  ·exact EN (R:=λv w k=>k v w) λv=>fp v
  exact fo
 case slice t x lo hi mx =>
  exact kF (R:=λa w k=>j2 env lo.toList λl=>j2 env hi.toList λh=>j2 env mx.toList λm=>wT C t a l.head? h.head? m.head? w k) λa =>
   zR (R:=λl w k=>j2 env hi.toList λh=>j2 env mx.toList λm=>wT C t a l.head? h.head? m.head? w k) λl =>
   zR (R:=λh w k=>j2 env mx.toList λm=>wT C t a l.head? h.head? m.head? w k) λh =>
   zR (R:=λm w k=>wT C t a l.head? h.head? m.head? w k) λm=>aj9
 case build t parts=>exact Wq (R:=λps w k=>CQ C t ps w k) λps=>aa8 hq
 case call c =>
  obtain⟨cal,args,ts⟩:=c;cases cal with
  | value f=>cases hq
  | invoke r m=>cases hq
  | builtin b =>
   refine zR (R:=λvs w k=>KK C b ts ty vs w k) λvs=>?_;cases b<;>first|cases hq|skip
   obtain⟨args⟩:=args;obtain⟨ts⟩:=ts;match args,ts,hq with
   | [_],[t],_ =>
    match vs with
    | [x]=>exact afz
    | []=>exact fo
    | _::_::_=>exact fo
 all_goals cases hq
section
variable(C:Cx)(ops:List Oper)(xs ys:au)(Rel:ad->ad->Prop)(Q:Exit->Act->ad->Prop)
def dI(i:Nat)(o:Oper)(K:Act->ad->Prop)(a:Act)(w:ad):Prop :=
 if Region.wanted o (yielded ops.toArray a.tmps)=true then
  (if mh C.T o.op=true then ∃v,(∀w1,(zm o.op=true->(i∈ys/\Rel w w1)\/w1=w)->(Oper.semAt C.r a.eval o).run C.P w1=.ok (.value v) w1)/\K (a.put o.dst v) w
   else o.wpIn (Fr C.r) 0 C.P a w (λa1 w1=>(i∈xs->Rel w w1)/\K a1 w1) Q)
 else K (a.put o.dst undef) w
def Good:List (Nat×Oper)->Act->ad->Prop
 | [],a,w=>Q .normal a w
 | (i,o)::r,a,w=>dI C ops xs ys Rel Q i o (Good r) a w
end
section
variable{C:Cx}{ops:List Oper}{xs ys:au}{Rel:ad->ad->Prop}{Q:Exit->Act->ad->Prop}
theorem amp{o:Oper}{a:Act}{w:ad}{K:Act->ad->Prop}(h:o.wpIn (Fr C.r) 0 C.P a w K Q):o.wpIn (Fr C.r) 0 C.P a w (λa1 w1=>(∃u,a1.tmps=(a.put o.dst u).tmps)/\K a1 w1) Q:=by
 refine⟨h.1,?_⟩;have h:=h.2;generalize (o.semAt (Fr C.r).round a.eval).run C.P w=r at h |-;cases r with
 | ok n w' =>
  cases n<;>simp only[Oper.uponIn]at h |-<;>first
   | exact⟨⟨_,rfl⟩,h⟩
   | (refine⟨h.1,CallsIn.mono h.2 λe vi he=>?_⟩
      cases e with
      | returned u=>exact⟨⟨_,rfl⟩,he⟩
      | panicked ch=>exact he
      | outgrown=>exact he)
   | (refine⟨h.1,RowsIn.mono h.2 λu vi he=>?_⟩
      exact⟨⟨_,rfl⟩,he⟩)
   | (refine⟨h.1,RoundIn.mono h.2 λe vi he=>?_⟩
      cases e with
      | returned u=>exact⟨⟨_,rfl⟩,he⟩
      | panicked ch=>exact he
      | outgrown=>exact he)
   | (refine⟨⟨undef,?_⟩,h⟩
      cases o.dst<;>rfl)
   | exact h
 | halt x w'=>cases x<;>simp only[Oper.uponIn]at h |-<;>exact h
theorem dI.mono{i:Nat}{o:Oper}{K K':Act->ad->Prop}{a:Act}{w:ad}(h:dI C ops xs ys Rel Q i o K a w)
  (hk:∀a1 w1,(∃u,a1.tmps=(a.put o.dst u).tmps)->(w1=w\/(mh C.T o.op=false/\(i∈xs->Rel w w1)))->K a1 w1->K' a1 w1):dI C ops xs ys Rel Q i o K' a w:=by
 unfold dI at h |-;split at h
 ·rename_i hw;rw[ag hw];split at h
  ·rename_i hq;rw[ag hq];obtain⟨v,h1,h2⟩:=h;exact⟨v,h1,hk _ _ ⟨_,rfl⟩ (.inl rfl) h2⟩
  rename_i hq;rw[ae hq];exact Oper.wpIn_mono (λa1 w1 ⟨h0,h1,h2⟩=>⟨h1,hk _ _ h0 (.inr ⟨by simpa using hq,h1⟩) h2⟩) (amp h)
 rename_i hw;rw[ae hw];exact hk _ _ ⟨_,rfl⟩ (.inl rfl) h
theorem dI.sound{i:Nat}{o:Oper}{K:Act->ad->Prop}{a:Act}{w:ad}(ho:ops[i]?=some o)(h:dI C ops xs ys Rel Q i o K a w):wpOpIn (Fr C.r) 0 C.P ops.toArray Q i K a w:=by
 have mK:ops.toArray[i]?=some o:=by simpa using ho
 unfold dI at h;unfold wpOpIn;simp only[mK];split at h
 ·rename_i hw;rw[ag hw];split at h
  ·obtain⟨v,h1,h2⟩:=h;refine⟨λ_ _=>trivial,?_⟩;have e:(Fr C.r).round=C.r:=rfl;rw[e,h1 w (λ_=>.inr rfl)];exact h2
  exact Oper.wpIn_mono (λ_ _ h=>h.2) h
 rename_i hw;rw[ae hw];exact⟨λ_ _=>trivial,h⟩
theorem afH{x:Operand}{o:Oper}{t:Tmp}(hx:x∈o.op.operands)(ht:x=.tmp t)(Oe:Array Oper):t∈o.looksAt Oe:=by subst ht;simp only[Oper.looksAt,cc,List.mem_filterMap];exact .inl ⟨.tmp t,by simpa using hx,rfl⟩
theorem wanted_put{o:Oper}{a:Act}{d:Option Tmp}{v:aj}(h:∀t,d=some t->t∉o.looksAt ops.toArray):Region.wanted o (yielded ops.toArray (a.put d v).tmps)=Region.wanted o (yielded ops.toArray a.tmps):=by
 unfold Region.wanted;split
 ·rfl
 rename_i j want hg;congr 1;unfold yielded;cases hj:(ops.toArray[j]?).bind (·.dst)with
 | none=>rfl
 | some s =>
  simp only[Option.bind_some];have:(a.put d v).tmps[s]?=a.tmps[s]?:=by
   cases d with
   | none=>rfl
   | some t =>
    have hne:t≠s:=by intro e;subst e;refine h t rfl ?_;simp only[Oper.looksAt,cc,hg];exact .inr (by rw[hj];simp)
    simp[Act.put,Array.getElem?_setIfInBounds_ne hne]
  rw[this]
theorem JN{o:Oper}{a:Act}{d:Option Tmp}{v:aj}(hs:∀cs b,o.op≠.select cs b)(h:∀t,d=some t->t∉o.looksAt ops.toArray):Oper.semAt C.r (a.put d v).eval o=Oper.semAt C.r a.eval o:=by
 have he:∀x∈o.op.operands,(a.put d v).eval x=a.eval x:=λx hx=>Act.eval_put λt ht e=>h t ht (afH hx e _);unfold Oper.semAt;split
 ·rename_i l c _ hop;have:resolve (a.put d v).eval c o.type=resolve a.eval c o.type:=resolve_congr c o.type λx hx=>he x (by rw[hop];simpa [Op.operands]using hx);rw[this]
 exact execOp_congr o hs he
def N7:Op->Bool
 | .select _ _=>false
 | _=>true
theorem dI.GS{i:Nat}{o:Oper}{K:Act->ad->Prop}{a:Act}{w:ad}{d:Option Tmp}{v:aj}(hs:N7 o.op=true)
  (h1:∀t,d=some t->t∉o.looksAt ops.toArray) (h2:∀t,d=some t->o.dst≠some t) (hQ:∀ch a w,Q (.panic ch) (a.put d v) w->Q (.panic ch) a w)
  (h:dI C ops xs ys Rel Q i o K (a.put d v) w):dI C ops xs ys Rel Q i o (λa1 w1=>K (a1.put d v) w1) a w:=by
 have UJ:∀cs b,o.op≠.select cs b:=λcs b e=>by rw[e]at hs;cases hs
 unfold dI at h |-;rw[wanted_put h1]at h;split at h
 ·rename_i hw;rw[ag hw];rw[JN UJ h1]at h;split at h
  ·rename_i hq;rw[ag hq];obtain⟨u,h3,h4⟩:=h;refine⟨u,h3,?_⟩;show K ((a.put o.dst u).put d v) w;rw[OX a (x:=o.dst) (y:=d) u v (λt ht hd=>h2 t hd ht)];exact h4
  rename_i hq;rw[ae hq];refine⟨λ_ _=>trivial,?_⟩;have h:=h.2;have e:(Fr C.r).round=C.r:=rfl;rw[e]at h |-;rw[JN UJ h1]at h;have pc:∀u,(a.put d v).put o.dst u=(a.put o.dst u).put d v:=λu=>(OX a (x:=o.dst) (y:=d) u v (λt ht hd=>h2 t hd ht)).symm;generalize (o.semAt C.r a.eval).run C.P w=r at h;cases r with
  | ok n w' =>
   cases n<;>simp only[Oper.uponIn]at h |-<;>first
    | exact h
    | (rw[pc]at h;exact h)
    | (refine⟨h.1,CallsIn.mono h.2 λe vi he=>?_⟩
       cases e with
       | returned u=>simp only at he |-;rw[pc]at he;exact he
       | panicked ch=>exact hQ _ _ _ he
       | outgrown=>exact he)
    | (refine⟨h.1,RowsIn.mono h.2 λu vi he=>?_⟩
       rw[pc]at he;exact he)
    | (refine⟨h.1,RoundIn.mono h.2 λe vi he=>?_⟩
       cases e with
       | returned u=>simp only at he |-;rw[pc]at he;exact he
       | panicked ch=>exact hQ _ _ _ he
       | outgrown=>exact he)
    | (rename_i dd
       have e2:({ a.put d v with defers:=dd::(a.put d v).defers }:Act).put o.dst undef=(({ a with defers:=dd::a.defers }:Act).put o.dst undef).put d v:=by rw[Act.put_defers];exact(OX _ (x:=o.dst) (y:=d) undef v (λt ht hd=>h2 t hd ht)).symm
       rw[e2]at h;exact h)
  | halt x w' =>cases x<;>simp only[Oper.uponIn]at h |-<;>first|exact h|exact hQ _ _ _ h
 rename_i hw;rw[ae hw];show K ((a.put o.dst undef).put d v) w;rw[OX a (x:=o.dst) (y:=d) undef v (λt ht hd=>h2 t hd ht)];exact h
def vu(T:List TD)(Oe:Array Oper)(xs ys:au)(j:Nat)(x:Oper)(i:Nat)(o:Oper):Bool :=
 mh T x.op&&x.apart Oe o&&N7 x.op&&N7 o.op&&(mh T o.op||!zm x.op||(xs.contains i&&ys.contains j))
theorem Good.move{i:Nat}{o:Oper}{B:List (Nat×Oper)}(hR:∀a b c:ad,Rel a b->Rel b c->Rel a c)(hQ:∀d v ch a w,Q (.panic ch) (Act.put a d v) w->Q (.panic ch) a w):∀ {A:List (Nat×Oper)} {a:Act} {w:ad},
  (∀p∈A,vu C.T ops.toArray xs ys p.1 p.2 i o=true)->Good C ops xs ys Rel Q (A++(i,o)::B) a w->dI C ops xs ys Rel Q i o (Good C ops xs ys Rel Q (A++B)) a w
 | [],a,w,_,h=>h
 | (j,x)::A,a,w,hA,h=>by
  have hb:=hA (j,x) ah;simp only[vu,eD,rY,BJ,sf]at hb;obtain⟨⟨⟨⟨hq,Mo⟩,dC⟩,Ef⟩,hrd⟩:=hb;obtain⟨a1,a2,a3⟩:=Oper.apart_spec Mo;have Nl:∀cs b,x.op≠.select cs b:=λcs b e=>by rw[e]at dC;cases dC
  have ih:=λa w h=>Good.move (B:=B) hR hQ (A:=A) (a:=a) (w:=w) (λp hp=>hA p (by simp[hp])) h;simp only[bb,Good]at h;unfold dI at h;split at h
  ·rename_i hw;obtain⟨v,hv,h⟩:=h;have h:=dI.GS Ef a1 a2 (hQ x.dst v) (ih _ _ h);refine dI.mono h λb w1 ⟨u,hb⟩ Ek hg=>?_;have hev:b.eval=(a.put o.dst u).eval:=by funext z;cases z<;>simp[Act.eval,hb]
   show dI C ops xs ys Rel Q j x (Good C ops xs ys Rel Q (A++B)) b w1;unfold dI;rw[hb,wanted_put (λt ht=>a3 t ht),ag hw,ag hq,hev,JN Nl (λt ht=>a3 t ht)];refine⟨v,λw2 h2=>hv w2 λhr=>?_,hg⟩;rcases Ek with rfl|⟨MW,hx⟩
   ·exact h2 hr
   rcases hrd with(hqo|hnr)|⟨hi,hj⟩
   ·simp[hqo]at MW
   ·simp[hr]at hnr
   rcases h2 hr with⟨_,h3⟩|rfl
   ·exact .inl ⟨hj,hR _ _ _ (hx hi) h3⟩
   exact .inl ⟨hj,hx hi⟩
  rename_i hw;have h:=dI.GS Ef a1 a2 (hQ x.dst undef) (ih _ _ h);refine dI.mono h λb w1 ⟨u,hb⟩ Ek hg=>?_;show dI C ops xs ys Rel Q j x (Good C ops xs ys Rel Q (A++B)) b w1;unfold dI;rw[hb,wanted_put (λt ht=>a3 t ht),ae hw];exact hg
def tx(o:Oper):au:=(o.after.toList.filter λe=>Region.binds .any e).map (·.on)
def nb(ops:List Oper):Nat->Nat->au
 | 0,_=>[]
 | n+1,i=>match ops[i]? with
  | some o=>tx o++(tx o).flatMap (nb ops n)
  | none=>[]
def qL(ops:List Oper):au->Bool
 | []=>true
 | i::r=>(match ops[i]? with
  | some o=>(tx o).all λj=>decide (j<ops.length)&&!(i::r).contains j
  | none=>false)&&qL ops r
def rS(T:List TD)(ops:List Oper)(xs ys:au):au->Bool
 | []=>true
 | x::r=>(match ops[x]? with
  | some ox=>r.all λi=>(nb ops ops.length i).contains x||(match ops[i]? with
   | some oi=>vu T ops.toArray xs ys x ox i oi
   | none=>false)
  | none=>false)&&rS T ops xs ys r
def wo(T:List TD)(ops:List Oper)(xs ys π:au):Bool :=
 qL ops π&&rS T ops xs ys π&&((bZ ops.length).all λi=>π.contains i)&&decide (π.length=ops.length)&&decide π.Nodup&&π.all λi=>decide (i<ops.length)
def nR(ops:List Oper)(l:au):List (Nat×Oper):=l.filterMap λi=>(ops[i]?).map λo=>(i,o)
theorem YP{A B:au}{i:Nat}:qL ops (A++i::B)=true->qL ops (A++B)=true:=by
 induction A with
 | nil=>intro h;simp only[aL,qL,eD]at h |-;exact h.2
 | cons x A ih =>
  intro h;simp only[bb,qL,eD]at h |-;refine⟨?_,ih h.2⟩;have h1:=h.1;cases ho:ops[x]? with
  | none=>simp[ho]at h1
  | some o =>simp only[ho]at h1;refine bc.2 λj hj=>?_;have:=bc.1 h1 j hj;simp only[eD,eQ,BJ,<-EZ,sf,bP,cc,not_or]at this |-;exact⟨this.1,this.2.1,this.2.2.1,this.2.2.2.2⟩
theorem ahj{A B:au}{i:Nat}:rS C.T ops xs ys (A++i::B)=true->rS C.T ops xs ys (A++B)=true:=by
 induction A with
 | nil=>intro h;simp only[aL,rS,eD]at h |-;exact h.2
 | cons x A ih =>
  intro h;simp only[bb,rS,eD]at h |-;refine⟨?_,ih h.2⟩;have h1:=h.1;cases ho:ops[x]? with
  | none=>simp[ho]at h1
  | some o =>
   simp only[ho]at h1;refine bc.2 λj hj=>bc.1 h1 j ?_;simp only[cc,bP]at hj |-;rcases hj with hj|hj
   ·exact .inl hj
   exact .inr (.inr hj)
theorem ahk{A B:au}{i:Nat}{o:Oper}(ho:ops[i]?=some o)(h:rS C.T ops xs ys (A++i::B)=true)(hn:∀x∈A,x∉nb ops ops.length i) :
  ∀p∈nR ops A,vu C.T ops.toArray xs ys p.1 p.2 i o=true:=by
 induction A with
 | nil=>intro p hp;simp[nR]at hp
 | cons x A ih =>
  intro p hp;simp only[bb,rS,eD]at h;have h1:=h.1;split at h1
  ·rename_i ox hox;simp only[nR,List.filterMap_cons,hox,gQ,bP]at hp;rcases hp with rfl|hp
   ·have:=bc.1 h1 i ah;simp only[ho,rY,sf]at this;exact this.resolve_left (hn x ah)
   exact ih h.2 (λy hy=>hn y (by simp[hy])) p hp
  cases h1
theorem QN{listed:Array Bool}(hcl:∀i o,ops[i]?=some o->listed.getD i true=true->∀j∈tx o,listed.getD j false=true)(hlt:∀j,listed.getD j false=true->listed.getD j true=true) :
  ∀n i o,ops[i]?=some o->(∀j∈tx o,listed.getD j false=true)->∀x∈nb ops n i,listed.getD x false=true:=by
 intro n;induction n with
 | zero=>intro i o _ _ x hx;simp[nb]at hx
 | succ n ih =>
  intro i o ho hp x hx;simp only[nb,ho,cc,List.mem_flatMap]at hx;rcases hx with hx|⟨j,hj,hx⟩
  ·exact hp x hx
  cases rH:ops[j]? with
  | none=>cases n<;>simp[nb,rH]at hx
  | some oj=>exact ih j oj rH (hcl j oj rH (hlt j (hp j hj))) x hx
theorem B7{listed:Array Bool}{i:Nat}:i∈Region.ready .any ops.toArray listed↔∃o,ops[i]?=some o/\listed.getD i true=false/\∀j∈tx o,listed.getD j false=true:=by
 simp only[Region.ready,y0,List.mem_range,I5,eD,BJ];constructor
 ·rintro⟨hlt,h1,h2⟩;have ho:ops.toArray[i]?=some ops[i]:=by simp[hlt]
  rw[ho]at h2;simp only[gQ,oI,WR]at h2;refine⟨ops[i],by simp[hlt],h1,λj hj=>?_⟩;simp only[tx,cJ,y0]at hj;obtain⟨e,⟨he,hb⟩,rfl⟩:=hj;have:=h2 e (by simpa using he);simpa [hb]using this
 rintro⟨o,ho,h1,h2⟩;have hlt:i<ops.length:=(dH.1 ho).1;refine⟨hlt,h1,?_⟩;have mK:ops.toArray[i]?=some o:=by simpa using ho
 rw[mK];simp only[gQ,oI,WR];intro e he;cases hb:Region.binds .any e with
 | false=>simp
 | true =>have:=h2 e.on (by simp only[tx,cJ,y0];exact⟨e,⟨by simpa using he,hb⟩,rfl⟩);simp only[BX,Bool.false_or];exact this
theorem ZM(A B:au):nR ops (A++B)=nR ops A++nR ops B:=by simp[nR]
theorem Qq{i:Nat}{o:Oper}(ho:ops[i]?=some o)(B:au):nR ops (i::B)=(i,o)::nR ops B:=by simp[nR,ho]
theorem Good.any(Mg:∀a b c:ad,Rel a b->Rel b c->Rel a c)(hQ:∀d v ch a w,Q (.panic ch) (Act.put a d v) w->Q (.panic ch) a w):∀(fuel:Nat) (R:au) (listed:Array Bool) (a:Act) (w:ad),R.length<=fuel->R.Nodup->listed.size=ops.length ->
  (∀i,i<ops.length->(listed.getD i true=false↔i∈R))->(∀i∈R,i<ops.length)->(∀i o,ops[i]?=some o->listed.getD i true=true->∀j∈tx o,listed.getD j false=true) ->
  qL ops R=true->rS C.T ops xs ys R=true->Good C ops xs ys Rel Q (nR ops R) a w->wpAnyIn (Fr C.r) 0 C.P .any ops.toArray Q fuel listed a w:=by
 intro fuel;induction fuel with
 | zero =>intro R listed a w hl gb hsz hR hlt hcl ht hp h;have:R=[]:=dt aa;subst this;refine⟨?_,h⟩;rw[ahP];intro i hi;obtain⟨o,ho,h1,_⟩:=B7.1 hi;exact absurd ((hR i (dH.1 ho).1).1 h1) ah
 | succ fuel ih =>
  intro R listed a w hl gb hsz hR hlt hcl ht hp h;have yg:∀j,j<ops.length->listed.getD j false=listed.getD j true:=by intro j hj;have:j<listed.size:=aa;simp[Array.getD,this]
  have DT:∀j,listed.getD j false=true->listed.getD j true=true:=by
   intro j hj;by_cases hlt:j<listed.size
   ·simpa [Array.getD,hlt]using hj
   simp[Array.getD,hlt]at hj
  refine⟨λDZ=>?_,λi hi=>?_⟩
  ·cases R with
   | nil=>exact h
   | cons x R =>
    exfalso;simp only[qL,eD]at ht;have hx:x∈Region.ready .any ops.toArray listed:=by
     have h1:=ht.1;split at h1
     ·rename_i o ho;refine B7.2 ⟨o,ho,(hR x (hlt x ah)).2 ah,λj hj=>?_⟩;have:=bc.1 h1 j hj;simp only[eD,eQ,BJ,<-EZ,sf]at this;rw[yg j this.1];cases hv:listed.getD j true with
      | true=>rfl
      | false=>exact absurd ((hR j this.1).1 hv) this.2
     cases h1
    rw[DZ]at hx;simp at hx
  obtain⟨o,ho,h1,h2⟩:=B7.1 hi;have MJ:=(dH.1 ho).1;have MI:=(hR i MJ).1 h1;obtain⟨A,B,rfl⟩:=E0 MI;have hna:∀x∈A,x∉nb ops ops.length i:=by intro x hx hc;have hxl:=QN hcl DT ops.length i o ho h2 x hc;have Nv:=hlt x (by simp[hx]);have:=(hR x Nv).2 (by simp[hx]);rw[DT x hxl]at this;cases this
  rw[ZM,Qq ho]at h;have hm:=Good.move Mg hQ (ahk ho hp hna) h;rw[<-ZM]at hm;refine wpOpIn_mono (λa1 w1 hg=>?_) (dI.sound ho hm);have yt:i∉A++B:=by
   have:=gb;rw[rZ]at this;intro hc;rcases cc.1 hc with hc|hc
   ·exact this.2.2 i hc i ah rfl
   exact(E1.1 this.2.1).1 hc
  have uF:∀j d,(listed.setIfInBounds i true).getD j d=if i=j then true else listed.getD j d:=by
   intro j d;by_cases hj:j<listed.size
   ·by_cases e:i=j
    ·subst e;simp[Array.getD,hj]
    simp[Array.getD,hj,e]
   by_cases e:i=j
   ·subst e;omega
   simp[Array.getD,hj,e]
  refine ih (A++B) _ a1 w1 (by simp at hl |-;omega) ?_ (by simpa using hsz) ?_ ?_ ?_ (YP ht) (ahj hp) hg
  ·have:=gb;rw[rZ]at this |-;refine⟨this.1,(E1.1 this.2.1).2,λx hx y hy=>this.2.2 x hx y (by simp[hy])⟩
  ·intro j hj;rw[uF];by_cases e:i=j
   ·subst e;simp only[if_true];exact⟨λh=>(by cases h),λh=>absurd h yt⟩
   rw[ae e,hR j hj];simp only[cc,bP];constructor
   ·rintro(h|h|h)
    ·exact .inl h
    ·exact absurd h.symm e
    exact .inr h
   rintro(h|h)
   ·exact .inl h
   exact .inr (.inr h)
  ·intro j hj;refine hlt j ?_;simp only[cc,bP]at hj |-;rcases hj with hj|hj
   ·exact .inl hj
   exact .inr (.inr hj)
  intro j oj rH yo k hk;rw[uF]at yo |-;by_cases e:i=j
  ·subst e;rw[ho]at rH;cases rH;have:=h2 k hk;split
   ·rfl
   exact this
  rw[ae e]at yo;have:=hcl j oj rH yo k hk;split
  ·rfl
  exact this
def oA(i:Nat):au->Bool
 | []=>false
 | j::r=>match Nat.beq i j with|true=>true|false=>oA i r
theorem uQ{i:Nat}{l:au}:oA i l=true↔i∈l:=by
 induction l with
 | nil=>simp[oA]
 | cons j r ih =>
  simp only[oA,bP];cases e:Nat.beq i j with
  | true=>simp[qt e]
  | false=>simp only[ih];exact⟨.inr,λh=>h.resolve_left (Oy e)⟩
def Bv:List Oper->Nat->(Oper->Prop)->Prop
 | [],_,_=>False
 | o::_,0,k=>k o
 | _::r,i+1,k=>Bv r i k
theorem II{l:List Oper}{i:Nat}{k:Oper->Prop}(h:Bv l i k):∃o,l[i]?=some o/\k o:=by
 induction l generalizing i with
 | nil=>exact h.elim
 | cons o r ih =>
  cases i with
  | zero=>exact⟨o,rfl,h⟩
  | succ i=>obtain⟨o',h1,h2⟩:=ih h;exact⟨o',h1,h2⟩
def Lq(b:Bool)(w w':ad)(K:Prop):Prop:=match b with|true=>Ext w w'/\K|false=>K
theorem Hb{b:Bool}{w w':ad}{K:Prop}(h:Lq b w w' K):(b=true->Ext w w')/\K:=by
 cases b with
 | true=>exact⟨λ_=>h.1,h.2⟩
 | false=>exact⟨λh=>(by cases h),h⟩
end
abbrev qQ:=Env->ad->(Env->ad->Prop)->(List PanicEntry->ad->Prop)->Prop
def Bw(C:Cx)(ops:List Oper)(xs:au)(i:Nat)(_:au)(r:qQ):qQ:=λenv w K Z=>Bv ops i λo=>vF ops env o.guard
   (λaO=>nQ C o.op o.type aO w (λv w'=>Lq (oA i xs) w w' (oF C.n o.dst v aO λe6=>r e6 w' K Z)) Z)
   (λaO=>oF C.n o.dst undef aO λe6=>r e6 w K Z)
noncomputable def zN(C:Cx)(ops:List Oper)(xs:au)(l:au):qQ:=List.rec (motive:=λ_=>qQ) IJ (Bw C ops xs) l
theorem ami{C:Cx}{ops:List Oper}{xs:au}{i:Nat}{rest:au}{env:Env}{w:ad}{K:Env->ad->Prop}{Z:List PanicEntry->ad->Prop}:zN C ops xs (i::rest) env w K Z=Bv ops i λo=>vF ops env o.guard
   (λaO=>nQ C o.op o.type aO w (λv w'=>Lq (oA i xs) w w' (oF C.n o.dst v aO λe6=>zN C ops xs rest e6 w' K Z)) Z)
   (λaO=>oF C.n o.dst undef aO λe6=>zN C ops xs rest e6 w K Z):=rfl
theorem Ko{C:Cx}(hT:cg C.P C.T){o:Oper}{env:Env}{a:Act}(hs:Sat env a.tmps){w:ad}{k:aj->ad->Prop}{Z:List PanicEntry->ad->Prop}(hq:mh C.T o.op=true)
  (h:nQ C o.op o.type env w k Z):∃v,(∀w1,(zm o.op=true->Ext w w1)->(Oper.semAt C.r a.eval o).run C.P w1=.ok (.value v) w1)/\k v w:=by
 obtain⟨v,hk,hu⟩:=amn hq w k h;refine⟨v,λw1 he=>?_,hk⟩;have h1:=hu w1 (λu w2=>u=v/\w2=w1) he ⟨rfl,rfl⟩;rcases Qo hT hs h1 with⟨s,h2,u,w',hr,rfl,rfl⟩|⟨hf,_⟩|⟨hf,_⟩|⟨hf,_⟩|⟨hf,_⟩
 ·rw[h2];simp[hr]
 ·simp[hq]at hf
 ·simp[hq]at hf
 ·simp[hq]at hf
 simp[hq]at hf
theorem Kl{C:Cx}(hT:cg C.P C.T){ops:List Oper}{xs ys:au}{Q:Exit->Act->ad->Prop}{K:Env->ad->Prop}{Z:List PanicEntry->ad->Prop}{ds:List Deferred}
  (hQ:∀env (a:Act) w,Sat env a.tmps->a.tmps.size=C.n->a.defers=ds->K env w->Q .normal a w) (hZ:∀(a:Act) w ch,a.tmps.size=C.n->a.defers=ds->Z ch w->Q (.panic ch) a w) :
  ∀ {l:au} {env:Env} {a:Act} {w:ad},Sat env a.tmps->a.tmps.size=C.n->a.defers=ds->zN C ops xs l env w K Z->Good C ops xs ys Ext Q (nR ops l) a w
 | [],env,a,w,hs,hn,hd,h=>hQ env a w hs hn hd h
 | i::rest,env,a,w,hs,hn,hd,h=>by
  rw[ami]at h;obtain⟨o,ho,h⟩:=II h;rw[Qq ho];simp only[Good,dI];rcases AM h hs with⟨hw,aO,hs',h'⟩|⟨hw,aO,hs',h'⟩
  ·rw[ag hw];cases hq:mh C.T o.op with
   | true =>rw[ag rfl];obtain⟨v,h1,h2⟩:=Ko hT hs' hq h';refine⟨v,λw1 hr=>h1 w1 λh=>(hr h).elim (·.2) (λe=>e▸Ext.refl _),?_⟩;obtain⟨e6,h3,h4,h5,h6⟩:=mQ (Hb h2).2 hs' hn;exact Kl hT hQ hZ h3 h4 (h5.trans hd) h6
   | false =>rw[ae ah];refine zP hT hs' h' (λv w' hk=>?_) (λch w' hz=>hZ a w' ch hn hd hz);obtain⟨h1,h2⟩:=Hb hk;refine⟨λhi=>h1 (uQ.2 hi),?_⟩;obtain⟨e6,h3,h4,h5,h6⟩:=mQ h2 hs' hn;exact Kl hT hQ hZ h3 h4 (h5.trans hd) h6
  rw[ae (by simp[hw])];obtain⟨e6,h3,h4,h5,h6⟩:=mQ h' hs' hn;exact Kl hT hQ hZ h3 h4 (h5.trans hd) h6
structure CB(w w1:ad):Prop where
 heap:w1.heap=w.heap
 ext:Ext w w1
theorem Sr{C:Cx}(hT:cg C.P C.T)(hm:C.P.follows .mixedOrders=true){id:Nat}{ops:Array Oper}{env:Env}{ds:List Deferred}{w:ad}{Q:iJ}(xs π:au)
  (hok:wo C.T ops.toList xs π π=true)
  (h:∀w1,CB w w1->zN C ops.toList xs π env w1 (λaO w'=>mO aO C.live λe'=>Q .normal e' ds w') (λch w'=>Q (.panic ch) [] ds w')) :
  aM C (.region id ops true) env ds w Q:=by
 refine⟨λa hs hn hd=>?_⟩;simp only[wo,eD,eQ]at hok;obtain⟨⟨⟨⟨⟨ht,hp⟩,hall⟩,hlen⟩,yu⟩,yp⟩:=hok;have hmem:∀i,i<ops.toList.length->i∈π:=λi hi=>by simpa using bc.1 hall i (by simpa using hi)
 have key:=h { w with drawn:=w.drawn+1 } ⟨rfl,rfl,rfl,rfl,aQ _,λ_ _=>rfl⟩;let Q':Exit->Act->ad->Prop:=λe a' w'=>a'.tmps.size=C.n/\match e with
  | .panic ch=>Q (.panic ch) [] a'.defers w'
  | e=>∃aO,Sat aO a'.tmps/\Q e aO a'.defers w'
 refine wpIn_mono (Q:=Q') ?_ (λe a' w' hq=>?_)
 ·refine wpIn_region_any hm ?_;have hg:Good C ops.toList xs π Ext Q' (nR ops.toList π) a { w with drawn:=w.drawn+1 }:=by
   refine Kl hT (ds:=ds) (λaO a' w' h1 h2 h3 h4=>?_) (λa' w' ch h1 h2 h3=>?_) hs hn hd key
   ·obtain⟨e',h5,h6⟩:=tz h4;exact⟨h2,e',λt v ht=>h1 t v (h5 t v ht),h3▸h6⟩
   exact⟨h1,h2▸h3⟩
  have hlt:∀i∈π,i<ops.toList.length:=λi hi=>by simpa using bc.1 yp i hi
  have:=Good.any (C:=C) (ops:=ops.toList) (xs:=xs) (ys:=π) (Rel:=Ext) (Q:=Q') (λ_ _ _ h k=>Ext.trans h k) (λd v ch a w hq=>by
   obtain⟨h1,h2⟩:=hq;refine⟨?_,?_⟩
   ·cases d<;>simpa [Act.put]using h1
   cases d<;>exact h2) ops.size π (Array.replicate ops.size false) a { w with drawn:=w.drawn+1 } (by simp[hlen]) yu ah (λi hi=>?_) hlt (λi o ho hl=>?_) ht hp hg
  ·simpa using this
  ·have:i<ops.size:=by simpa using hi
   simp[Array.getD,this,hmem i hi]
  have:i<ops.size:=by simpa using(dH.1 ho).1
  simp[Array.getD,this]at hl
 obtain⟨h1,h2⟩:=hq;cases e with
 | panic ch=>exact⟨h1,[],Sat.nil _,h2⟩
 | _=>exact⟨h1,h2⟩
structure lF(X:au)(w w':ad):Prop where
 size:w.heap.size<=w'.heap.size
 block:∀j,j<w.heap.size->j∉X->w'.heap[j]?=w.heap[j]?
theorem lF.trans{X:au}{a b c:ad}(h:lF X a b)(k:lF X b c):lF X a c :=
 ⟨qu h.size k.size,λj hj hx=>(k.block j (BK hj h.size) hx).trans (h.block j hj hx)⟩
theorem lF.F0{X:au}{w w':ad}{b:Nat}{l:aC}{t:TypeId}(h:tZ w b l t w')(hb:b∈X):lF X w w' :=
 ⟨by rw[h.size];exact aQ _,λj _ hx=>h.other λe=>hx (e▸hb)⟩
theorem lF.ext{X:au}{w w':ad}(h:Ext w w'):lF X w w':=⟨h.size,λj hj _=>h.block j hj⟩
def FM(b:Bool)(S:Prop)(K:Prop):Prop:=match b with|true=>S/\K|false=>K
theorem wV{b:Bool}{S K:Prop}(h:FM b S K):(b=true->S)/\K:=by
 cases b with
 | true=>exact⟨λ_=>h.1,h.2⟩
 | false=>exact⟨λh=>(by cases h),h⟩
def Bx(C:Cx)(Rel:ad->ad->Prop)(ops:List Oper)(xs ys:au)(i:Nat)(_:au)(r:qQ):qQ:=λenv w K Z=>Bv ops i λo=>vF ops env o.guard
   (λaO=>nQ C o.op o.type aO w (λv w'=>FM (oA i xs) (Rel w w') (FM (oA i ys) (∀w1,Rel w w1->nQ C o.op o.type aO w1 (λv1 w2=>v1=v/\w2=w1) (λ_ _=>False)) (oF C.n o.dst v aO λe6=>r e6 w' K Z))) Z)
   (λaO=>oF C.n o.dst undef aO λe6=>r e6 w K Z)
noncomputable def Cv(C:Cx)(Rel:ad->ad->Prop)(ops:List Oper)(xs ys:au)(l:au):qQ:=List.rec (motive:=λ_=>qQ) IJ (Bx C Rel ops xs ys) l
theorem amj{C:Cx}{Rel:ad->ad->Prop}{ops:List Oper}{xs ys:au}{i:Nat}{rest:au}{env:Env}{w:ad}{K:Env->ad->Prop}{Z:List PanicEntry->ad->Prop}:Cv C Rel ops xs ys (i::rest) env w K Z=Bv ops i λo=>vF ops env o.guard
   (λaO=>nQ C o.op o.type aO w (λv w'=>FM (oA i xs) (Rel w w') (FM (oA i ys) (∀w1,Rel w w1->nQ C o.op o.type aO w1 (λv1 w2=>v1=v/\w2=w1) (λ_ _=>False)) (oF C.n o.dst v aO λe6=>Cv C Rel ops xs ys rest e6 w' K Z))) Z)
   (λaO=>oF C.n o.dst undef aO λe6=>Cv C Rel ops xs ys rest e6 w K Z):=rfl
theorem ZF{C:Cx}(hT:cg C.P C.T){o:Oper}{env:Env}{a:Act}(hs:Sat env a.tmps){w:ad}{v:aj}(hq:mh C.T o.op=true)
  (h:nQ C o.op o.type env w (λu w2=>u=v/\w2=w) (λ_ _=>False)):(Oper.semAt C.r a.eval o).run C.P w=.ok (.value v) w:=by
 rcases Qo hT hs h with⟨s,h2,u,w',hr,rfl,rfl⟩|⟨hf,_⟩|⟨hf,_⟩|⟨hf,_⟩|⟨hf,_⟩
 ·rw[h2];simp[hr]
 ·simp[hq]at hf
 ·simp[hq]at hf
 ·simp[hq]at hf
 simp[hq]at hf
theorem Kn{C:Cx}(hT:cg C.P C.T){Rel:ad->ad->Prop}{ops:List Oper}{xs ys:au}{Q:Exit->Act->ad->Prop}{K:Env->ad->Prop}{Z:List PanicEntry->ad->Prop}{ds:List Deferred}
  (hQ:∀env (a:Act) w,Sat env a.tmps->a.tmps.size=C.n->a.defers=ds->K env w->Q .normal a w) (hZ:∀(a:Act) w ch,a.tmps.size=C.n->a.defers=ds->Z ch w->Q (.panic ch) a w) :
  ∀ {l:au} {env:Env} {a:Act} {w:ad},Sat env a.tmps->a.tmps.size=C.n->a.defers=ds->Cv C Rel ops xs ys l env w K Z->Good C ops xs ys Rel Q (nR ops l) a w
 | [],env,a,w,hs,hn,hd,h=>hQ env a w hs hn hd h
 | i::rest,env,a,w,hs,hn,hd,h=>by
  rw[amj]at h;obtain⟨o,ho,h⟩:=II h;rw[Qq ho];simp only[Good,dI];rcases AM h hs with⟨hw,aO,hs',h'⟩|⟨hw,aO,hs',h'⟩
  ·rw[ag hw];cases hq:mh C.T o.op with
   | true =>
    rw[ag rfl];obtain⟨v,h1,h2⟩:=Ko hT hs' hq h';obtain⟨_,h2⟩:=wV h2;obtain⟨hst,h2⟩:=wV h2;refine⟨v,λw1 hr=>?_,?_⟩
    ·cases hrd:zm o.op with
     | false=>exact h1 w1 λh=>by simp[hrd]at h
     | true =>
      rcases hr hrd with⟨hi,Nd⟩|rfl
      ·exact ZF hT hs' hq (hst (uQ.2 hi) w1 Nd)
      exact h1 w1 λ_=>Ext.refl _
    obtain⟨e6,h3,h4,h5,h6⟩:=mQ h2 hs' hn;exact Kn hT hQ hZ h3 h4 (h5.trans hd) h6
   | false =>rw[ae ah];refine zP hT hs' h' (λv w' hk=>?_) (λch w' hz=>hZ a w' ch hn hd hz);obtain⟨h1,h2⟩:=wV hk;refine⟨λhi=>h1 (uQ.2 hi),?_⟩;obtain⟨e6,h3,h4,h5,h6⟩:=mQ (wV h2).2 hs' hn;exact Kn hT hQ hZ h3 h4 (h5.trans hd) h6
  rw[ae (by simp[hw])];obtain⟨e6,h3,h4,h5,h6⟩:=mQ h' hs' hn;exact Kn hT hQ hZ h3 h4 (h5.trans hd) h6
theorem acj{C:Cx}(hT:cg C.P C.T)(hm:C.P.follows .mixedOrders=true){id:Nat}{ops:Array Oper}{env:Env}{ds:List Deferred}{w:ad}{Q:iJ}(Rel:ad->ad->Prop)(hR:∀a b c:ad,Rel a b->Rel b c->Rel a c)(xs ys π:au)
  (hok:wo C.T ops.toList xs ys π=true)
  (h:∀w1,CB w w1->Cv C Rel ops.toList xs ys π env w1 (λaO w'=>mO aO C.live λe'=>Q .normal e' ds w') (λch w'=>Q (.panic ch) [] ds w')) :
  aM C (.region id ops true) env ds w Q:=by
 refine⟨λa hs hn hd=>?_⟩;simp only[wo,eD,eQ]at hok;obtain⟨⟨⟨⟨⟨ht,hp⟩,hall⟩,hlen⟩,yu⟩,yp⟩:=hok;have hmem:∀i,i<ops.toList.length->i∈π:=λi hi=>by simpa using bc.1 hall i (by simpa using hi)
 have key:=h { w with drawn:=w.drawn+1 } ⟨rfl,rfl,rfl,rfl,aQ _,λ_ _=>rfl⟩;let Q':Exit->Act->ad->Prop:=λe a' w'=>a'.tmps.size=C.n/\match e with
  | .panic ch=>Q (.panic ch) [] a'.defers w'
  | e=>∃aO,Sat aO a'.tmps/\Q e aO a'.defers w'
 refine wpIn_mono (Q:=Q') ?_ (λe a' w' hq=>?_)
 ·refine wpIn_region_any hm ?_;have hg:Good C ops.toList xs ys Rel Q' (nR ops.toList π) a { w with drawn:=w.drawn+1 }:=by
   refine Kn hT (ds:=ds) (λaO a' w' h1 h2 h3 h4=>?_) (λa' w' ch h1 h2 h3=>?_) hs hn hd key
   ·obtain⟨e',h5,h6⟩:=tz h4;exact⟨h2,e',λt v ht=>h1 t v (h5 t v ht),h3▸h6⟩
   exact⟨h1,h2▸h3⟩
  have hlt:∀i∈π,i<ops.toList.length:=λi hi=>by simpa using bc.1 yp i hi
  have:=Good.any (C:=C) (ops:=ops.toList) (xs:=xs) (ys:=ys) (Rel:=Rel) (Q:=Q') hR (λd v ch a w hq=>by
   obtain⟨h1,h2⟩:=hq;refine⟨?_,?_⟩
   ·cases d<;>simpa [Act.put]using h1
   cases d<;>exact h2) ops.size π (Array.replicate ops.size false) a { w with drawn:=w.drawn+1 } (by simp[hlen]) yu ah (λi hi=>?_) hlt (λi o ho hl=>?_) ht hp hg
  ·simpa using this
  ·have:i<ops.size:=by simpa using hi
   simp[Array.getD,this,hmem i hi]
  have:i<ops.size:=by simpa using(dH.1 ho).1
  simp[Array.getD,this]at hl
 obtain⟨h1,h2⟩:=hq;cases e with
 | panic ch=>exact⟨h1,[],Sat.nil _,h2⟩
 | _=>exact⟨h1,h2⟩
structure Sl where
 a:Option Addr
 len:Nat
 cap:Nat
abbrev Sl.v(s:Sl):aj:=.slice s.a s.len s.cap
structure By(w:ad)(s:Sl)(l:ab):Prop where
 len:s.len=l.length
 cells:Cells w s.a (l.map bv)
 cap:s.len<=s.cap
theorem Cells.sub(h:Cells w a l){i m b:Nat}(sz:Nat)(hm:b<=m)(hi:i<=b):Cells w (bo a i m sz) ((l.take (b*sz)).drop (i*sz)):=by
 by_cases hn:(l.take (b*sz)).drop (i*sz)=[]
 ·rw[hn];exact⟨λh=>absurd rfl h,λj v hj=>by simp at hj⟩
 have hl:l≠[]:=by intro e;subst e;simp at hn
 have hib:m≠i:=by intro e;have:b=i:=aa;subst this;exact hn (List.drop_eq_nil_of_le (by simp;omega))
 refine⟨λ_=>zx (h.1 hl),λj v hj=>?_⟩;rw[zv,zw (h.1 hl) hib,Nat.add_assoc];rw[List.getElem?_drop,BM]at hj;split at hj
 ·exact h.2 _ v hj
 cases hj
abbrev iv(x:Int):aj:=.int .i64 x
theorem dN.cS(h:dN w b l t){i:Nat}{u:aj}(hu:l[i]?=some u):w.cell? ⟨b,i,none⟩=some u:=(h.cell i).trans hu
structure Row(w:ad)(s:Sl)(e:TypeId)(sz:Nat)(xs:aC):Prop where
 len:xs.length=s.len*sz
 at_:(s.a=none/\s.len=0/\s.cap=0)\/∃b cur,s.a=some ⟨b,0,none⟩/\pR w b cur e/\s.len<=s.cap/\s.cap<=maxLen/\cur.size=s.cap*sz/\cur.toList.take (s.len*sz)=xs
theorem Row.nil(w:ad)(e:TypeId)(sz:Nat):Row w ⟨none,0,0⟩ e sz []:=⟨ah,.inl ⟨rfl,rfl,rfl⟩⟩
theorem Row.Iz{n:Nat}(h:dN w b l e)(hl:l.length=n*sz)(hn:n<=maxLen):Row w ⟨some ⟨b,0,none⟩,n,n⟩ e sz l :=
 ⟨hl,.inr ⟨b,l.toArray,rfl,h.f,aQ _,hn,by simpa using hl,by simp[<-hl]⟩⟩
theorem Row.cells{s:Sl}(h:Row w s e sz xs):Cells w s.a xs:=by
 rcases h.at_ with⟨h1,h2,h3⟩|⟨b,cur,h1,h2,h3,h4,h5,h6⟩
 ·have:xs=[]:=dt (by rw[h.len,h2];simp);subst this;exact⟨λh=>absurd rfl h,λj v hj=>by simp at hj⟩
 refine⟨λ_=>by rw[h1];rfl,λj v hj=>?_⟩;rw[h1];simp only[bW,bM,dR];rw[<-h6,BM]at hj;split at hj
 ·rw[h2.cell];simpa using hj
 cases hj
theorem Row.tw{s:Sl}(h:Row w s e sz xs)(hb:∀b,s.a=some ⟨b,0,none⟩->w'.heap[b]?=w.heap[b]?):Row w' s e sz xs:=by
 refine⟨h.len,?_⟩;rcases h.at_ with h1|⟨b,cur,h1,h2,r⟩
 ·exact .inl h1
 exact .inr ⟨b,cur,h1,h2.km (hb b h1),r⟩
theorem Row.YZ{B:Nat}{s:Sl}(h:Row w s e sz xs)(hb:Tw B w w'):Row w' s e sz xs:=by
 refine⟨h.len,?_⟩;rcases h.at_ with h1|⟨b,cur,h1,h2,r⟩
 ·exact .inl h1
 obtain⟨fz,h2,h3⟩:=h2;exact .inr ⟨b,cur,h1,⟨fz,hb.cS _ _ _ _ h2,h3⟩,r⟩
theorem Row.cap{w:ad}{s:Sl}{e:TypeId}{sz:Nat}{xs:aC}(h:Row w s e sz xs):s.len<=s.cap:=by
 rcases h.at_ with⟨_,h2,_⟩|⟨_,_,_,_,h3,_⟩
 ·omega
 exact h3
theorem Row.lt{w:ad}{s:Sl}{e:TypeId}{sz:Nat}{xs:aC}(h:Row w s e sz xs):s.a≠none->bW s.a<w.heap.size:=by
 intro hn;rcases h.at_ with⟨h1,_⟩|⟨b,cur,h1,h2,r⟩
 ·exact absurd h1 hn
 rw[h1];exact h2.lt
structure Gh(w:ad)(s:Sl)(w':ad)(s':Sl):Prop where
 os:w'.os=w.os
 tape:w'.tape=w.tape
 output:w'.output=w.output
 size:w.heap.size<=w'.heap.size
 block:∀c,c<w.heap.size->(s.a=none\/c≠bW s.a)->w'.heap[c]?=w.heap[c]?
 own:s'.a=none\/(s.a≠none/\bW s'.a=bW s.a)\/w.heap.size<=bW s'.a
theorem Gh.refl(w:ad)(s:Sl):Gh w s w s:=by
 refine⟨rfl,rfl,rfl,aQ _,λ_ _ _=>rfl,?_⟩;cases h:s.a with
 | none=>exact .inl rfl
 | some p=>exact .inr (.inl ⟨ah,rfl⟩)
theorem ajz{ty:TypeId}{i:TypeInfo}(ht:P.underlying t=some (.slice e))(hi:P.info? e=some i){s x:Sl}(hx:x.len=0)(hle:s.len<=s.cap) :
  (Builtin.append_ #[t,t] ty #[s.v,x.v]).run P w=.ok s.v w:=by
 obtain⟨sa,sl,sc⟩:=s;obtain⟨xa,xl,xc⟩:=x;simp only at hx hle;subst hx;cases sa<;>cases xa<;>simp[Builtin.append_,run_underlying ht,sizeOf,typeInfo,hi,Builtin.lenOf,Builtin.firstCells,loadCells,loadCellsFrom,hle,storeCells]
theorem ajy(w:ad)(t ty e:TypeId)(i:TypeInfo)(ht:P.underlying t=some (.slice e))(hi:P.info? e=some i)
  (g sLen Pn:Nat) (cur:Array aj) (fz:Nat×Nat) (hg:w.heap[g]?=some (.cells cur e fz)) (hok:CF fz cur.size)
  (a:Addr) (m c:Nat) (news:aC) (hl:news.length=m*i.size) (hnews:∀j u,news[j]?=some u->w.cell? (a.add j)=some u) (h1:∀u∈news,u.oneCell'=true)
  (hroom:sLen+m<=Pn) (hfit:sLen*i.size+news.length<=cur.size) :
  (Builtin.append_ #[t,t] ty #[.slice (some ⟨g,0,none⟩) sLen Pn,.slice (some a) m c]).run P w =
   .ok (.slice (some ⟨g,0,none⟩) (sLen+m) Pn) (w.setRow g (cur.toList.take (sLen*i.size)++news++cur.toList.drop (sLen*i.size+news.length)).toArray):=by
 have hf:=run_firstCells_some (P:=P) w i.size m a m c news hl hnews;have hst:=Pk P g (sLen*i.size) e fz news 0 cur w hg hok (by simpa using hfit) h1;simp only[Nat.add_zero]at hst;simp[Builtin.append_,run_underlying ht,sizeOf,typeInfo,hi,Builtin.lenOf,hroom,hf,Addr.add_lit,hst]
theorem QS(hT:cg P T){t ty e:TypeId}{d de:TD}(hd:T[t]?=some d)(hu:d.under=.slice e)(hde:T[e]?=some de){z:aj}(hz:de.zero=some z)(hzs:z.cells.size=de.size)(hsz:0<de.size)
  {w:ad} {s x:Sl} {xs ys:aC} (hr:Row w s e de.size xs) (hx:Cells w x.a ys) (hxl:ys.length=x.len*de.size) (h1:∀u∈ys,u.oneCell'=true) (hb:(s.len+x.len)*de.bytes<=140737488355328) (hm:s.len+x.len<=4611686018427387904)
  {k:aj->ad->Prop} (hk:∀s' w',Row w' s' e de.size (xs++ys)->s'.len=s.len+x.len->Gh w s w' s'->k s'.v w'):bE P (Builtin.append_ #[t,t] ty #[s.v,x.v]) w k:=by
 have DI:=hT t d hd;have AW:=hT e de hde;obtain⟨i,hi,om,te,hi3⟩:=AW.info;have ht:P.underlying t=some (.slice e):=by obtain⟨d0,q1,q2⟩:=DI.under;rw[hu]at q2;cases d0<;>first|(simp_all[eS];done)|(simp only[eS]at q2;split at q2<;>cases q2)
 by_cases hn:x.len=0
 ·have tj:ys=[]:=dt (by rw[hxl,hn];simp);subst tj;have hle:s.len<=s.cap:=by
   rcases hr.at_ with⟨_,h2,h3⟩|⟨_,_,_,_,h3,_⟩
   ·omega
   exact h3
  refine .of (v:=s.v) (w':=w) ?_ (hk s w (by simpa using hr) aa (Gh.refl w s));exact ajz ht hi hn hle
 have tj:ys≠[]:=by intro e;subst e;have:0<x.len*de.size:=Nat.mul_pos aa hsz;simp at hxl;omega
 have hpl:=hx.1 tj;have hnews:∀j v,ys[j]?=some v->w.cell? ((⟨bW x.a,bM x.a,none⟩:Addr).add j)=some v:=λj v hj=>by rw[addr_add];exact hx.2 j v hj
 have uK:x.v=.slice (some ⟨bW x.a,bM x.a,none⟩) x.len x.cap:=by show Value.slice x.a x.len x.cap=_;conv=>lhs;rw[hpl]
 have Be:i.size=de.size:=om;have TT:i.bytes=de.bytes:=te;rw[uK];have og:∀old,grownCap w (s.len+x.len) old e<=maxLen:=λold=>grownCap_le_maxLen w _ old e (by simp only[maxLen];omega);have rC:∀old,s.len+x.len<=grownCap w (s.len+x.len) old e:=λold=>grownCap_ge w _ old e;have hlen:(xs++ys).length=(s.len+x.len)*de.size:=by rw[ak,hr.len,hxl,wE]
 have fresh:∀old,k (.slice (some ⟨w.heap.size,0,none⟩) (s.len+x.len) (grownCap w (s.len+x.len) old e))
   (w.drew.alloc (.cells (xs.toArray++ys.toArray++Builtin.zeroCells z.cells (grownCap w (s.len+x.len) old e-(s.len+x.len))) e)):=by
  intro old
  refine hk ⟨some ⟨w.heap.size,0,none⟩,s.len+x.len,grownCap w (s.len+x.len) old e⟩ _ ⟨hlen,.inr ⟨w.heap.size,_,rfl,⟨(0,0),heap_alloc_new w.drew _,.zero _⟩,rC old,og old,?_,?_⟩⟩ rfl
   ⟨rfl,rfl,rfl,ah,λc hc _=>heap_alloc_old w.drew _ c hc,.inr (.inr (aQ _))⟩
  ·simp only[Array.size_append,I5,size_zeroCells,hzs,hr.len,hxl,<-wE];congr 1;have:=rC old;omega
  simp only[Array.toList_append,bj];rw[<-bj,<-hlen];exact tD
 rcases hr.at_ with⟨h1',h2,h3⟩|⟨b,cur,h1',h2,h3,h4,h5,h6⟩
 ·have Nw:xs=[]:=dt (by rw[hr.len,h2];simp);subst Nw;have jD:x.len*de.bytes<=140737488355328:=by rw[h2,dR]at hb;exact hb
  have kg:=run_append_nil (P:=P) w t ty e i z ht hi (hi3.trans hz) ⟨bW x.a,bM x.a,none⟩ x.len x.cap ys (by rw[hxl,Be]) hnews aa aa (by rw[TT];omega);have hf:=fresh 0;simp only[h2,dR,Array.empty_append]at hf;have yz:s.v=.slice none 0 0:=by show Value.slice s.a s.len s.cap=_;rw[h1',h2,h3]
  rw[yz];exact .of kg hf
 have yz:s.v=.slice (some ⟨b,0,none⟩) s.len s.cap:=by show Value.slice s.a s.len s.cap=_;rw[h1']
 rw[yz];by_cases hroom:s.len+x.len<=s.cap
 ·have hfit:s.len*i.size+ys.length<=cur.size:=by rw[hxl,h5,Be,<-wE];exact Nat.mul_le_mul_right _ hroom
  obtain⟨fz,h2,hok⟩:=h2;have kg:=ajy (P:=P) w t ty e i ht hi b s.len s.cap cur fz h2 hok ⟨bW x.a,bM x.a,none⟩ x.len x.cap ys (by rw[hxl,Be]) hnews h1 hroom hfit;refine .of kg (hk ⟨some ⟨b,0,none⟩,s.len+x.len,s.cap⟩ _ ⟨hlen,.inr ⟨b,_,rfl,⟨fz,setRow_heap w b cur _ e _ h2,?_⟩,hroom,h4,?_,?_⟩⟩ rfl ⟨rfl,rfl,rfl,ah,λc _ hc=>setRow_other w b c _ ?_,.inr (.inl ⟨by rw[h1'];simp,by rw[h1']⟩)⟩)
  ·intro j hj;refine hok j ?_;simp only[I5,ak,bg,aU,y9]at hj;omega
  ·simp only[I5,ak,bg,aU,y9];omega
  ·rw[Be,h6,<-hlen];exact tD
  rcases hc with hc|hc
  ·rw[h1']at hc;cases hc
  rw[h1']at hc;exact hc
 have holds:∀j v,xs[j]?=some v->w.cell? ((⟨b,0,none⟩:Addr).add j)=some v:=λj v hj=>by have:=hr.cells.2 j v hj;rw[h1']at this;rw[addr_add];exact this
 have kg:=run_append_grow (P:=P) w t ty e i z ht hi (hi3.trans hz) ⟨b,0,none⟩ s.len s.cap xs (by rw[hr.len,Be]) holds ⟨bW x.a,bM x.a,none⟩ x.len x.cap ys (by rw[hxl,Be]) hnews aa aa (growslice_fits aa (by rw[TT];exact hb));exact .of kg (fresh s.cap)
theorem dN.cells(h:dN w b l t):Cells w (some ⟨b,0,none⟩) l:=⟨λ_=>rfl,λj v hj=>by simp only[bW,bM,dR];rw[h.cell];exact hj⟩
theorem ajW(hT:cg P T){t e:TypeId}{d de:TD}(hd:T[t]?=some d)(hu:d.under=.slice e)(hde:T[e]?=some de){z:aj}(hz:de.zero=some z)(hzs:z.cells=#[z])(hsz:de.size=1)
  {w:ad} {kl kc:IntKind} {n c:Int} (hn:0<=n/\n<=c) (hb:(de.bytes:Int)*c<=281474976710656) (hm:c<=4611686018427387904)
  {k:aj->ad->Prop} (hk:∀w' b,pP w b (eP c.toNat z) e w'->k (.slice (some ⟨b,0,none⟩) n.toNat c.toNat) w'):bE P (Instr.makeSlice t (.int kl n) (.int kc c)) w k:=by
 have DI:=hT t d hd;have AW:=hT e de hde;obtain⟨i,hi,om,te,hi3⟩:=AW.info;have ht:P.underlying t=some (.slice e):=by obtain⟨d0,q1,q2⟩:=DI.under;rw[hu]at q2;cases d0<;>first|(simp_all[eS];done)|(simp only[eS]at q2;split at q2<;>cases q2)
 have kg:=run_make (P:=P) w t e i z ht hi (hi3.trans hz) kl kc n c hn.1 hn.2 (by rw[te];exact hb) aa;refine .of kg (hk _ _ ⟨rfl,?_⟩);congr 2;apply Array.ext
 ·simp[size_madeCells,om,hsz]
 intro j h1 h2;simp[madeCells,hzs,Nat.mod_one]
def nT(B:Nat)(w w':ad):Prop:=∀(j:Nat) (o:Obj),B<=j->w.heap[j]?=some o->(∀c t f,o≠.cells c t f)->w'.heap[j]?=some o
theorem nT.refl(B:Nat)(w:ad):nT B w w:=λ_ _ _ h _=>h
structure Gj(P:Program)(gf:Nat)(lb:aC)(xs:List aC)(S:ad->Prop):Prop where
 enters:Enters P gf
 out:∀(l:Nat) (W:ad) (J:Nat->ad->Prop) (Jx:ad->Prop),(∀k W,J k W->S W)->(∀k W W',J k W->Ext W W'->J k W')->(∀W W',Jx W->Ext W W'->Jx W') ->
  (∀k x W1,xs[k]?=some x->J k W1->CI P l x.toArray W1 λb W2=>(b=true->J (k+1) W2)/\(b=false->Jx W2))->J 0 W ->
  fY P gf (.func (.yield l) #[] #[]::lb).toArray W λ_ W'=>J xs.length W'\/Jx W'
def BI:au->aC->Env->Env
 | p::ps,v::vs,env=>BI ps vs ((p,v)::env)
 | _,_,env=>env
theorem WL{n:Nat}:∀ {ps:au} {vs:aC} {env:Env} {tm:Array aj},Sat env tm->tm.size=n->(∀p∈ps,p<n) ->
  Sat (BI ps vs env) ((ps.zip vs).foldl (λt p=>t.setIfInBounds p.1 p.2) tm)/\((ps.zip vs).foldl (λt p=>t.setIfInBounds p.1 p.2) tm).size=n
 | [],vs,env,tm,hs,hn,_=>by cases vs<;>exact⟨hs,hn⟩
 | p::ps,[],env,tm,hs,hn,_=>⟨hs,hn⟩
 | p::ps,v::vs,env,tm,hs,hn,hp=>by simp only[BI,List.zip_cons_cons,List.foldl_cons];exact WL (hs.put (by rw[hn];exact hp p ah) v) (by simpa using hn) (λq hq=>hp q (by simp[hq]))
def Pd(B:Nat)(W:ad)(I:ad->Prop)(Ix:Code->ad->Prop):iJ:=λe _ _ W'=>match e with
 | .normal=>nT B W W'/\I W'
 | .ret=>nT B W W'/\Ix .ret W'
 | .exit id=>nT B W W'/\Ix (.exit id) W'
 | _=>False
theorem Xu(hT:cg C.P C.T)(hro:C.r=none){g:Operand}{ps:Array Tmp}{assign body:Code}{env:Env}{ds:List Deferred}{w:ad}{Q:iJ}{gf:Nat}{lb:aC}
  (hg:dj env g λv=>v=.func (.func gf) #[] lb.toArray) {xs:List aC} {S:ad->Prop} (hit:Gj C.P gf lb xs S) (hps:∀x∈xs,x.length=ps.size) (hpn:(ps.toList.all λp=>decide (p<C.n))=true)
  (I:Nat->ad->Prop) (Ix:Code->ad->Prop) (hI:∀k W W',I k W->Tw w.heap.size W W'->I k W') (hIx:∀c W W',Ix c W->Tw w.heap.size W W'->Ix c W') (hS:∀k W,I k W->S W) (h0:I 0 w)
  (yy:∀l k x W,xs[k]?=some x->I k W->jh { C with r:=some l } assign (BI ps.toList x env) [] W λe Az ds1 W1=>(match e with
   | .normal=>ds1=[]/\nT w.heap.size W W1/\∀W2,Tw w.heap.size W1 W2->jh { C with r:=some l } body Az [] W2 (Pd w.heap.size W2 (I (k+1)) Ix)
   | _=>False))
  (hdone:∀D W,w.heap.size<=D->W.heap[D]?=some (.deferred (some []))->I xs.length W->Q .normal env ({ target:=.collected D,args:=#[] }::ds) W)
  (hstop:∀D c W,w.heap.size<=D->W.heap[D]?=some (.deferred (some []))->Ix c W->jh C c env ({ target:=.collected D,args:=#[] }::ds) W Q) :
  aM C (.rangeFunc g ps assign body) env ds w Q:=by
 refine⟨λa hs hn hd=>?_⟩;have hgv:=dZ hg hs;rw[hro];refine wpIn_rangeFunc ?_;intro fn _;obtain⟨rec,iY⟩:∃rec:LoopState->Option Code->Loop,rec=λst pe=>{ state:=st,pending:=pe,fn,tmps:=a.tmps,params:=ps,assign,body,defers:=w.heap.size }:=⟨_,rfl⟩
 obtain⟨W1,AR⟩:∃W1,(w.alloc (.deferred (some []))).alloc (.loop (rec .ready none))=W1:=⟨_,rfl⟩
 have AN:W1.heap[w.heap.size+1]?=some (.loop (rec .ready none)):=by rw[<-AR];have:=heap_alloc_new (w.alloc (.deferred (some []))) (.loop (rec .ready none));rwa [World.size_alloc]at this
 have hK1:W1.heap[w.heap.size]?=some (.deferred (some [])):=by rw[<-AR];exact(Below.heap_alloc _ _ _ ah).trans (heap_alloc_new w _)
 have hE1:Ext w W1:=by rw[<-AR];exact((Below.refl _ w).alloc (aQ _) _).alloc ah _
 refine⟨w.heap.size+1,[{ target:=.collected w.heap.size,args:=#[] }],W1,{ target:=.fn (.func gf) lb.toArray,args:=#[.func (.yield (w.heap.size+1)) #[] #[]] },W1,gf,
  (.func (.yield (w.heap.size+1)) #[] #[]::lb).toArray,W1,?_,?_,λ_ _=>trivial,?_,λh=>by simp[Fr,Fence.wide]at h,?_⟩
 ·rw[<-AR,iY];exact run_enterLoop_outer _ _ _ _ _
 ·simp only[resolve,hgv];simp[Deferred.ofValue,go_sem]
 ·have:=hit.enters (.func (.yield (w.heap.size+1)) #[] #[]::lb).toArray W1;simp only[invoke];rw[<-this];simp
 have nd:∀r c t f,Obj.loop r≠.cells c t f:=λ_ _ _ _=>nofun
 have VJ:∀r c t f,Obj.deferred r≠.cells c t f:=λ_ _ _ _=>nofun
 have J7:∀ {W:ad} {r:Loop} (o:Obj),W.heap[w.heap.size+1]?=some (.loop r)->Tw w.heap.size W (W.putObj (w.heap.size+1) o):=λo h=>(YY h (nd _)).mono aa;have Ez:∀ {W:ad} {o:Obj},W.heap[w.heap.size+1]?=some o->w.heap.size+1<W.heap.size:=λh=>(ku.1 h).1
 refine CS.2 (Calls.nD (fY.calls hit.enters (hit.out (w.heap.size+1) W1
  (λk W=>I k W/\W.heap[w.heap.size+1]?=some (.loop (rec .ready none))/\W.heap[w.heap.size]?=some (.deferred (some [])))
  (λW=>∃c,Ix c W/\W.heap[w.heap.size+1]?=some (.loop (rec .done (some c)))/\W.heap[w.heap.size]?=some (.deferred (some [])))
  (λk W h=>hS k W h.1) ?_ ?_ ?_ ⟨hI _ _ _ h0 (hE1.tw (aQ _)),AN,hK1⟩)) ?_)
 ·rintro k W W'⟨h1,h2,h3⟩he;have:=Ez h2;exact⟨hI _ _ _ h1 (he.tw aa),(he.block _ aa).trans h2,(he.block _ aa).trans h3⟩
 ·rintro W W'⟨c,h1,h2,h3⟩he;have:=Ez h2;exact⟨c,hIx _ _ _ h1 (he.tw aa),(he.block _ aa).trans h2,(he.block _ aa).trans h3⟩
 ·rintro k x W hx⟨hi,hl,hk⟩;have hlt:=Ez hl;have hxm:x∈xs:=jX hx;have hy:=run_yield (P:=C.P) (args:=x.toArray) hl (by rw[iY];simpa using hps x hxm);rw[iY]at hy;have aeW:(ps.zip x.toArray).foldl (λtmps (t,a)=>tmps.setIfInBounds t a) a.tmps=(ps.toList.zip x).foldl (λt p=>t.setIfInBounds p.1 p.2) a.tmps:=by rw[<-Array.foldl_toList,Array.toList_zip]
  obtain⟨hs1,jT⟩:=WL (n:=C.n) (ps:=ps.toList) (vs:=x) hs hn (λp hp=>by simpa using bc.1 hpn p hp);refine⟨fn,_,assign,body,hy,?_⟩;simp only[aeW];refine roundIn_of_wpIn (F:=Fr none) trivial ?_;have hv:=(tT (C:={ C with r:=some (w.heap.size+1) }) hT (yy (w.heap.size+1) k x W hx hi)).out ⟨_,[]⟩ hs1 jT rfl;refine wpIn_mono hv ?_;rintro e a1 Wa⟨hn2,Az,dG,hq⟩;cases e with
  | normal =>
   obtain⟨yb,Un,hb⟩:=hq;have MO:=Un _ _ aa hl (nd _);have qg:=Un _ _ aa hk (VJ _);have aeo:=Ez MO;refine⟨_,run_beginRound MO (by rw[iY]),?_⟩;have hl2:(Wa.putObj (w.heap.size+1) (.loop { rec .ready none with state:=.busy })).heap[w.heap.size+1]?=some (.loop { rec .ready none with state:=.busy }):=ahS aeo;have tf:(Wa.putObj (w.heap.size+1) (.loop { rec .ready none with state:=.busy })).heap[w.heap.size]?=some (.deferred (some [])):=(Fj aa).trans qg;have hb:=(tT (C:={ C with r:=some (w.heap.size+1) }) hT (hb _ (J7 (.loop { rec .ready none with state:=.busy }) MO))).out a1 dG hn2 yb
   have fin:∀(jump:Option Code) (W3:ad),nT w.heap.size (Wa.putObj (w.heap.size+1) (.loop { rec .ready none with state:=.busy })) W3 ->
     (Instr.endRound (w.heap.size+1) jump).run C.P W3=.ok (.bool jump.isNone) (W3.putObj (w.heap.size+1) (.loop (rec (if jump.isNone then .ready else .done) jump))) /\
     Tw w.heap.size W3 (W3.putObj (w.heap.size+1) (.loop (rec (if jump.isNone then .ready else .done) jump))) /\
     (W3.putObj (w.heap.size+1) (.loop (rec (if jump.isNone then .ready else .done) jump))).heap[w.heap.size+1]?=some (.loop (rec (if jump.isNone then .ready else .done) jump)) /\
     (W3.putObj (w.heap.size+1) (.loop (rec (if jump.isNone then .ready else .done) jump))).heap[w.heap.size]?=some (.deferred (some [])):=λjump W3 hk3=>by
    have rG:=hk3 _ _ aa hl2 (nd _);have h1:=run_endRound (P:=C.P) jump rG;have h2:=hk3 _ _ aa tf (VJ _);refine⟨?_,J7 _ rG,ahS (Ez rG),(Fj aa).trans h2⟩;rw[iY]at h1 |-;exact h1
   refine wpIn_mono hb ?_;rintro e a3 W3⟨_,_,_,hp⟩;cases e with
   | normal =>obtain⟨hk3,hi3⟩:=hp;obtain⟨hr,ht,hl4,hk4⟩:=fin none W3 hk3;exact⟨_,_,hr,true,rfl,λ_=>⟨hI _ _ _ hi3 ht,hl4,hk4⟩,λh=>by cases h⟩
   | ret =>obtain⟨hk3,hi3⟩:=hp;obtain⟨hr,ht,hl4,hk4⟩:=fin (some .ret) W3 hk3;exact⟨_,_,hr,false,rfl,λh=>(by cases h),λ_=>⟨.ret,hIx _ _ _ hi3 ht,hl4,hk4⟩⟩
   | exit id =>obtain⟨hk3,hi3⟩:=hp;obtain⟨hr,ht,hl4,hk4⟩:=fin (some (.exit id)) W3 hk3;exact⟨_,_,hr,false,rfl,λh=>(by cases h),λ_=>⟨.exit id,hIx _ _ _ hi3 ht,hl4,hk4⟩⟩
   | goto t=>exact hp.elim
   | panic ch=>exact hp.elim
   | outgrown=>exact hp.elim
  | _=>exact hq.elim
 rintro e W2⟨v,rfl,(⟨hi,hl,hk⟩|⟨c,hi,hl,hk⟩)⟩
 ·refine⟨none,_,by have:=run_endLoop (P:=C.P) hl (by rw[iY];simp);rw[iY]at this;exact this,hn,env,hs,?_⟩;have:=hdone w.heap.size (W2.putObj (w.heap.size+1) (.loop { rec .ready none with state:=.exhausted })) (aQ _) ((Fj aa).trans hk) (hI _ _ _ hi (J7 _ hl));rw[iY]at this;simpa [hd]using this
 refine⟨some c,_,by have:=run_endLoop (P:=C.P) hl (by rw[iY];simp);rw[iY]at this;exact this,?_⟩;have:=hstop w.heap.size c (W2.putObj (w.heap.size+1) (.loop { rec .done (some c)with state:=.exhausted })) (aQ _) ((Fj aa).trans hk) (hIx _ _ _ hi (J7 _ hl));rw[iY]at this;have key:=(tT hT this).out { a with defers:=[{ target:=.collected w.heap.size,args:=#[] }]++a.defers } hs hn (by simp[hd]);rw[hro]at key;exact key
theorem aM.cut{S:Type}{c:Code}{env:Env}{ds:List Deferred}{Q:iJ}(i:Nat)(M:S->Env)(I:S->ad->Prop)
  (h:aM C c env ds w (λe aO ds' w'=>match e with
   | .exit j=>(match Nat.beq j i with
    | true=>ds'=ds/\∃s,qI aO (M s)/\I s w'
    | false=>Q (.exit j) aO ds' w')
   | e=>Q e aO ds' w'))
  (k:∀s w',I s w'->Q (.exit i) (M s) ds w'):aM C c env ds w Q:=by
 refine⟨λa hs hn hd=>wpIn_mono (h.out a hs hn hd) λe a' w' ⟨h1,aO,h2,h3⟩=>?_⟩;cases e with
 | exit j =>
  simp only at h3;cases hj:Nat.beq j i with
  | true =>simp only[hj]at h3;obtain⟨hds,s,h4,h5⟩:=h3;have:=qt hj;subst this;exact⟨h1,M s,λt v ht=>h2 t v (tM h4 t v ht),by rw[hds];exact k s w' h5⟩
  | false =>simp only[hj]at h3;exact⟨h1,aO,h2,h3⟩
 | _=>exact⟨h1,aO,h2,h3⟩
inductive aT where
 | ay (b:Nat) (l:aC) (t:TypeId)
 | row (s:Sl) (e:TypeId) (sz:Nat) (xs:aC)
 | obj (b:Nat) (o:Obj)
abbrev cx:=List aT
def aT.at_:aT->Option Nat
 | .ay b _ _=>some b
 | .row s _ _ _=>s.a.map (·.block)
 | .obj b _=>some b
def aT.laid(w:ad):aT->Prop
 | .ay b l t=>dN w b l t
 | .row s e sz xs=>Row w s e sz xs
 | .obj b o=>w.heap[b]?=some o
theorem aT.lt{w:ad}{r:aT}(h:r.laid w){b:Nat}(hb:r.at_=some b):b<w.heap.size:=by
 cases r with
 | ay b' l t=>cases hb;exact dN.lt h
 | row s e sz xs =>simp only[aT.at_,iB]at hb;obtain⟨p,hp,rfl⟩:=hb;have:=Row.lt h (by rw[hp];simp);rw[hp]at this;exact this
 | obj b' o=>cases hb;exact(ku.1 h).1
theorem aT.km{r:aT}(h:r.laid w)(hk:∀b,r.at_=some b->w'.heap[b]?=w.heap[b]?):r.laid w':=by
 cases r with
 | ay b' l t=>exact(hk b' rfl).trans h
 | row s e sz xs=>exact Row.tw h λb hb=>hk b (by simp[aT.at_,hb])
 | obj b' o=>exact(hk b' rfl).trans h
structure Sub(V W:ad):Prop where
 cS:∀(b:Nat) (c:Array aj) (t:TypeId) (f:Nat×Nat),V.heap[b]?=some (Obj.cells c t f)->W.heap[b]?=some (Obj.cells c t f)
theorem aS(V:ad):Sub V V:=⟨λ_ _ _ _ h=>h⟩
theorem Sub.trans{A B C:ad}(h:Sub A B)(k:Sub B C):Sub A C:=⟨λb c t f hb=>k.cS b c t f (h.cS b c t f hb)⟩
theorem Sub.ext{A B C:ad}(h:Sub A B)(k:Ext B C):Sub A C:=⟨λb c t f hb=>by have:=h.cS b c t f hb;rw[k.block b (ku.1 this).1];exact this⟩
theorem Sub.cell{V W:ad}(h:Sub V W){a:Addr}{v:aj}(hc:V.cell? a=some v):W.cell? a=some v:=by
 have:W.heap[a.block]?=V.heap[a.block]?:=by
  unfold World.cell? at hc;split at hc
  ·rename_i c t f hb;rw[hb];exact h.cS _ _ _ _ hb
  cases hc
 rw[World.cell?_of_block this];exact hc
theorem Cells.tL{V W:ad}(h:Cells V a l)(k:Sub V W):Cells W a l:=⟨h.1,λj v hj=>k.cell (h.2 j v hj)⟩
def IA(V:ad)(b:Nat):Prop:=∀(c:Array aj) (t:TypeId) (f:Nat×Nat),V.heap[b]?≠some (Obj.cells c t f)
def aT.off(r s:aT):Prop:=∀b,r.at_=some b->s.at_≠some b
structure Rel(w0 V0:ad)(own:List aT)(V w:ad):Prop where
 base:Ext w0 w
 sub:Sub V0 V
 old:∀b,b<w0.heap.size->IA V0 b->IA V b
 laid:∀r∈own,r.laid w
 new:∀r∈own,∀b,r.at_=some b->w0.heap.size<=b
 hid:∀r∈own,∀b,r.at_=some b->IA V b
 apart:own.Pairwise aT.off
 data:Sub V w
theorem aG{V:ad}(h:Sub V w):Rel w V [] V w:=⟨Ext.refl _,aS _,λ_ _ h=>h,ah,ah,ah,List.Pairwise.nil,h⟩
section
variable{w0 V0 V w:ad}{own:List aT}
theorem Rel.Aw(H:Rel w0 V0 own V w){a:Addr}{v:aj}(h:V.cell? a=some v):w.cell? a=some v:=H.data.cell h
theorem Rel.ext(H:Rel w0 V0 own V w){w':ad}(he:Ext w w'):Rel w0 V0 own V w' :=
 ⟨H.base.trans he,H.sub,H.old,λr hr=>aT.km (H.laid r hr) λb hb=>he.block b (aT.lt (H.laid r hr) hb),H.new,H.hid,H.apart,H.data.ext he⟩
theorem Rel.call(H:Rel w0 V0 own V w){own':List aT}{V' w':ad}(K:Rel w V own' V' w'):Rel w0 V0 (own'++own) V' w':=by
 refine⟨H.base.trans K.base,H.sub.trans K.sub,λb hb hn=>K.old b (BK hb H.base.size) (H.old b hb hn),λr hr=>?_,λr hr b hb=>?_,λr hr b hb=>?_,?_,K.data⟩
 ·rcases cc.1 hr with hr|hr
  ·exact K.laid r hr
  exact aT.km (H.laid r hr) λb hb=>K.base.block b (aT.lt (H.laid r hr) hb)
 ·rcases cc.1 hr with hr|hr
  ·exact qu H.base.size (K.new r hr b hb)
  exact H.new r hr b hb
 ·rcases cc.1 hr with hr|hr
  ·exact K.hid r hr b hb
  exact K.old b (aT.lt (H.laid r hr) hb) (H.hid r hr b hb)
 refine List.pairwise_append.2 ⟨K.apart,H.apart,λr hr s hs b hb he=>?_⟩;have h1:=K.new r hr b hb;have h2:=aT.lt (H.laid s hs) he;omega
theorem Rel.bd(H:Rel w0 V0 own V w){V' w':ad}(K:Rel w V [] V' w'):Rel w0 V0 own V' w':=H.call K
inductive App:List aT->List aT->List aT->Prop where
 | n {l:List aT}:App [] l l
 | c {x:aT} {k l r:List aT}:App k l r->App (x::k) l (x::r)
theorem App.eq{k l r:List aT}(h:App k l r):k++l=r:=by induction h with
 | n=>rfl
 | c _ ih=>rw[bb,ih]
theorem Rel.cq(H:Rel w0 V0 own V w){own' o:List aT}{V' w':ad}(K:Rel w V own' V' w')(e:App own' own o:=by first|exact App.c App.n|exact App.c (App.c App.n)|exact App.n|exact App.c (App.c (App.c App.n))|exact App.c (App.c (App.c (App.c App.n)))):Rel w0 V0 o V' w':=e.eq▸H.call K
theorem Rel.us{f:FuncId}{a:Array aj}{x:aj}{K:aj->ad->Prop}{Z:List PanicEntry->ad->Prop}{V':ad}(H:Rel w0 V0 own V w)(c:fY P f a w λv w'=>v=x/\Rel w V [] V' w')(k:∀w',Rel w0 V0 own V' w'->K x w'):cR P f a w K Z:=c.use λ_ w' h=>h.1▸k w' (H.bd h.2)
theorem Rel.sl(H:Rel w0 V0 own V w){own':List aT}(h:own'.Sublist own):Rel w0 V0 own' V w :=
 ⟨H.base,H.sub,H.old,λr hr=>H.laid r (h.subset hr),λr hr=>H.new r (h.subset hr),λr hr=>H.hid r (h.subset hr),H.apart.sublist h,H.data⟩
theorem Rel.pY{r:aT}(H:Rel w0 V0 (r::own) V w):Rel w0 V0 own V w:=H.sl (I7 _ _)
theorem Rel.swap{r s:aT}(H:Rel w0 V0 (r::s::own) V w):Rel w0 V0 (s::r::own) V w:=by
 have hm:∀x,x∈s::r::own->x∈r::s::own:=λx hx=>by simp only[bP]at hx |-;rcases hx with h|h|h<;>simp[h]
 refine⟨H.base,H.sub,H.old,λx hx=>H.laid x (hm x hx),λx hx=>H.new x (hm x hx),λx hx=>H.hid x (hm x hx),?_,H.data⟩;have h:=H.apart;simp only[qv,bP,forall_eq_or_imp]at h |-;obtain⟨⟨h1,h2⟩,h3,h4⟩:=h;exact⟨⟨λb hb hc=>h1 b hc hb,h3⟩,h2,h4⟩
theorem Rel.more(H:Rel w0 V0 own V w){r:aT}{w':ad}(he:Ext w w')(hr:r.laid w')(hn:∀b,r.at_=some b->w.heap.size<=b):Rel w0 V0 (r::own) V w':=by
 have H':=H.ext he;refine⟨H'.base,H'.sub,H'.old,?_,?_,?_,?_,H'.data⟩
 ·intro x hx;rcases bP.1 hx with rfl|hx
  ·exact hr
  exact H'.laid x hx
 ·intro x hx b hb;rcases bP.1 hx with rfl|hx
  ·exact qu H.base.size (hn b hb)
  exact H'.new x hx b hb
 ·intro x hx b hb;rcases bP.1 hx with rfl|hx
  ·intro c t f hc;have h1:=H.data.cS b c t f hc;have h2:=(ku.1 h1).1;have h3:=hn b hb;omega
  exact H'.hid x hx b hb
 refine qv.2 ⟨λs hs b hb hc=>?_,H'.apart⟩;have h1:=hn b hb;have h2:=aT.lt (H.laid s hs) hc;omega
theorem Rel.EI(H:Rel w0 V0 own V w){b:Nat}{l:aC}{t:TypeId}{w':ad}(h:pP w b l t w'):Rel w0 V0 (.ay b l t::own) V w' :=
 H.more h.ext h.ay λc hc=>by cases hc;rw[h.num];exact aQ _
theorem Rel.nw(H:Rel w0 V0 own V w){l:aC}{t:TypeId}{G:ad->Nat->Prop}(k:∀w' b,Rel w0 V0 (.ay b l t::own) V w'->G w' b):∀w' b,pP w b l t w'->G w' b :=
 λw' b h=>k w' b (H.EI h)
theorem Rel.qo(H:Rel w0 V0 own V w){l:aC}{t:TypeId}{G:ad->Nat->Prop}(k:∀w' b,Rel w0 V0 (.ay b l t::own) V w'->G w' b):∀w' b,pP w b l t w'->Ext w w'/\G w' b :=
 λw' b h=>⟨h.ext,k w' b (H.EI h)⟩
theorem Rel.nA(_:Rel w0 V0 own V w){l:aC}{t:TypeId}{G:ad->Nat->Prop}{A:Prop}(k:∀w' b,Rel w0 V0 (.ay b l t::own) V w'->G w' b)(e:(∀w' b,Rel w0 V0 (.ay b l t::own) V w'->G w' b)->A:=by first|exact Rel.qo H|exact Rel.nw H):A:=e k
theorem Rel.br(H:Rel w0 V0 own V w)(e:TypeId)(sz:Nat):Rel w0 V0 (.row ⟨none,0,0⟩ e sz []::own) V w :=
 H.more (Ext.refl _) (Row.nil _ _ _) λb hb=>by simp[aT.at_]at hb
theorem Rel.gh{n:Nat}(H:Rel w0 V0 (.ay b l e::own) V w)(hl:l.length=n*sz)(hn:n<=maxLen):Rel w0 V0 (.row ⟨some ⟨b,0,none⟩,n,n⟩ e sz l::own) V w:=by
 have hb:dN w b l e:=H.laid (.ay b l e) ah;have hr:Row w ⟨some ⟨b,0,none⟩,n,n⟩ e sz l:=Row.Iz hb hl hn;refine⟨H.base,H.sub,H.old,?_,?_,?_,?_,H.data⟩
 ·intro x hx;rcases bP.1 hx with rfl|hx
  ·exact hr
  exact H.laid x (by simp[hx])
 ·intro x hx c hc;rcases bP.1 hx with rfl|hx
  ·exact H.new (.ay b l e) ah c hc
  exact H.new x (by simp[hx]) c hc
 ·intro x hx c hc;rcases bP.1 hx with rfl|hx
  ·exact H.hid (.ay b l e) ah c hc
  exact H.hid x (by simp[hx]) c hc
 have:=qv.1 H.apart;exact qv.2 ⟨λs hs c hc=>this.1 s hs c hc,this.2⟩
theorem Rel.put(H:Rel w0 V0 own V w){i:Nat}{r r':aT}(hi:own[i]?=some r){w':ad}(hos:w'.os=w.os)(aeM:w'.tape=w.tape)(hout:w'.output=w.output)(hsz:w.heap.size<=w'.heap.size)
  (hbl:∀c,c<w.heap.size->r.at_≠some c->w'.heap[c]?=w.heap[c]?) (hr:r'.laid w') (hn:∀b,r'.at_=some b->r.at_=some b\/w.heap.size<=b):Rel w0 V0 (own.set i r') V w':=by
 have hlt:i<own.length:=(dH.1 hi).1;have Eb:own[i]=r:=(dH.1 hi).2;have hmem:r∈own:=jX hi;have hoth:∀(j:Nat) s,own[j]?=some s->j≠i->∀b,s.at_=some b->r.at_≠some b:=by
  intro j s hj hne b hb hc;have qf:=(dH.1 hj).1;have yk:=(dH.1 hj).2;rcases Nat.lt_or_ge j i with h|h
  ·have:=E3.1 H.apart j i qf hlt h;rw[yk,Eb]at this;exact this b hb hc
  have:=E3.1 H.apart i j hlt qf aa;rw[yk,Eb]at this;exact this b hc hb
 have uF:∀x∈own.set i r',x=r'\/∃j,j≠i/\own[j]?=some x:=by
  intro x hx;obtain⟨j,hj⟩:=List.mem_iff_getElem?.1 hx;by_cases hji:i=j
  ·subst hji;rw[List.getElem?_set_self hlt]at hj;cases hj;exact .inl rfl
  rw[List.getElem?_set_ne hji]at hj;exact .inr ⟨j,λe=>hji e.symm,hj⟩
 have s9:∀(b:Nat) (c:Array aj) (t:TypeId) (f:Nat×Nat),V.heap[b]?=some (Obj.cells c t f)->w'.heap[b]?=some (Obj.cells c t f):=by intro b c t f hb;have h1:=H.data.cS b c t f hb;rw[hbl b (ku.1 h1).1 λhc=>H.hid r hmem b hc c t f hb];exact h1
 refine⟨⟨hos.trans H.base.os,aeM.trans H.base.tape,hout.trans H.base.output,qu H.base.size hsz,λk hk=>?_⟩,H.sub,H.old,λx hx=>?_,λx hx b hb=>?_,λx hx b hb=>?_,?_,⟨s9⟩⟩
 ·rw[hbl k (BK hk H.base.size) λhc=>by have:=H.new r hmem k hc;omega];exact H.base.block k hk
 ·rcases uF x hx with rfl|⟨j,hj,hx⟩
  ·exact hr
  have hl:=H.laid x (jX hx);exact aT.km hl λb hb=>hbl b (aT.lt hl hb) (hoth j x hx hj b hb)
 ·rcases uF x hx with rfl|⟨j,hj,hx⟩
  ·rcases hn b hb with h|h
   ·exact H.new r hmem b h
   exact qu H.base.size h
  exact H.new x (jX hx) b hb
 ·rcases uF x hx with rfl|⟨j,hj,hx⟩
  ·rcases hn b hb with h|h
   ·exact H.hid r hmem b h
   intro c t f hc;have h1:=H.data.cS b c t f hc;have h2:=(ku.1 h1).1;omega
  exact H.hid x (jX hx) b hb
 rw[E3];intro j k hj hk hjk b hb hc;simp only[List.length_set]at hj hk;rw[List.getElem_set]at hb hc;have key:∀(m:Nat) (hm:m<own.length),m≠i->own[m].at_=some b->r'.at_=some b->False:=by
  intro m hm hne h1 h2;rcases hn b h2 with h|h
  ·exact hoth m own[m] (by simp[hm]) hne b h1 h
  have:=aT.lt (H.laid own[m] (List.getElem_mem hm)) h1;omega
 split at hb
 ·split at hc
  ·omega
  exact key k hk aa hc hb
 split at hc
 ·exact key j hj aa hb hc
 exact E3.1 H.apart j k hj hk hjk b hb hc
theorem Rel.sW(H:Rel w0 V0 own V w){i b:Nat}{c:aC}{t:TypeId}(hi:own[i]?=some (.ay b c t)):dN w b c t:=H.laid (.ay b c t) (jX hi)
theorem Rel.rowAt(H:Rel w0 V0 own V w){i:Nat}{s:Sl}{e sz:Nat}{xs:aC}(hi:own[i]?=some (.row s e sz xs)):Row w s e sz xs:=H.laid (.row s e sz xs) (jX hi)
theorem Rel.agW(H:Rel w0 V0 own V w){i b:Nat}{o:Obj}(hi:own[i]?=some (.obj b o)):w.heap[b]?=some o:=H.laid (.obj b o) (jX hi)
theorem Rel.KM(H:Rel w0 V0 own V w){i b o:Nat}{c:aC}{t:TypeId}{u:aj}(hi:own[i]?=some (.ay b c t))(h:c[o]?=some u):w.cell? ⟨b,o,none⟩=some u:=(H.sW hi).cS h
theorem Rel.Qb(H:Rel w0 V0 own V w){i b:Nat}{c c':aC}{t:TypeId}(hi:own[i]?=some (.ay b c t)){w':ad}(hu:tZ w b c' t w'):Rel w0 V0 (own.set i (.ay b c' t)) V w':=by have hb:=H.sW hi;have hu':=hu;obtain⟨rfl⟩:=hu;exact H.put hi rfl rfl rfl ah (λk _ hk=>hu'.other λe=>hk (by rw[e];rfl)) (hu'.ay hb.lt) λk hk=>.inl hk
theorem Rel.storeAt(H:Rel w0 V0 own V w){i b o:Nat}{c l:aC}{t:TypeId}(hi:own[i]?=some (.ay b c t)){k:ad->Prop}(hk:gS c o l λc'=>∀w',Rel w0 V0 (own.set i (.ay b c' t)) V w'->k w') :
  ∃c t',oR w b c t'/\gS c o l λc'=>∀w',mZ w b c' t' w'->k w':=by
 refine⟨c,t,(H.sW hi).f,?_⟩;have mono:∀(c:aC) (o:Nat) (l:aC) (k k':aC->Prop),(∀x,k x->k' x)->gS c o l k->gS c o l k':=by
  intro c;induction c with
  | nil=>intro o l k k' h hr;cases o<;>cases l<;>first|exact h _ hr|exact hr.elim
  | cons u c ih =>
   intro o l k k' h hr;cases o with
   | zero =>
    cases l with
    | nil=>exact h _ hr
    | cons v l=>exact ih 0 l _ _ (λx hx=>h _ hx) hr
   | succ o=>cases l<;>exact ih o _ _ _ (λx hx=>h _ hx) hr
 exact mono c o l _ _ (λc' hc' w' hu=>hc' w' (H.Qb hi (hu.F0 (H.sW hi)))) hk
theorem Rel.uc(hT:cg P T){t ty e:TypeId}{d de:TD}(hd:T[t]?=some d)(hu:d.under=.slice e)(hde:T[e]?=some de){z:aj}(hz:de.zero=some z)(hzs:z.cells.size=de.size)(hsz:0<de.size)
  {s x:Sl} {xs ys:aC} (H:Rel w0 V0 own V w) {i:Nat} (hi:own[i]?=some (.row s e de.size xs)) (hx:Cells w x.a ys) (hxl:ys.length=x.len*de.size) (h1:∀u∈ys,u.oneCell'=true) (hb:(s.len+x.len)*de.bytes<=140737488355328) (hm:s.len+x.len<=4611686018427387904)
  {k:aj->ad->Prop} (hk:∀s' w',Rel w0 V0 (own.set i (.row s' e de.size (xs++ys))) V w'->s'.len=s.len+x.len->k s'.v w'):bE P (Builtin.append_ #[t,t] ty #[s.v,x.v]) w k:=by
 refine QS hT hd hu hde hz hzs hsz (H.rowAt hi) hx hxl h1 hb hm λs' w' hr hl hg=>hk s' w' ?_ hl;have hra:=(H.rowAt hi).at_;refine H.put hi hg.os hg.tape hg.output hg.size (λc hc hne=>hg.block c hc ?_) hr λb hb=>?_
 ·cases hs:s.a with
  | none=>exact .inl rfl
  | some p=>refine .inr λe=>hne ?_;rw[e];simp[aT.at_,hs,bW]
 simp only[aT.at_,iB]at hb |-;obtain⟨p,hp,rfl⟩:=hb;rcases hg.own with h|⟨h,h'⟩|h
 ·rw[hp]at h;cases h
 ·cases hs:s.a with
  | none=>exact absurd hs h
  | some q=>rw[hp,hs]at h';exact .inl ⟨q,rfl,h'.symm⟩
 rw[hp]at h;exact .inr h
theorem Rel.freeze(H:Rel w0 V0 own V w){own':List aT}(h:own'.Sublist own):∃V',Sub V V'/\Rel w0 V0 own' V' w /\
  ∀(b:Nat) (c:Array aj) (t:TypeId) (f:Nat×Nat),w0.heap.size<=b->w.heap[b]?=some (Obj.cells c t f)->(∀r∈own',r.at_≠some b)->V'.heap[b]?=some (Obj.cells c t f):=by
 have Hs:=H.sl h;let q:Nat->Bool:=λi=>(decide (i<w0.heap.size)&&(match V.heap[i]? with|some (.cells _ _ _)=>false|_=>true))||own'.any λr=>r.at_ == some i
 have hq:∀i,q i=true↔(i<w0.heap.size/\IA V i)\/∃r∈own',r.at_=some i:=by
  intro i;simp only[q,rY,eD,eQ,List.any_eq_true,beq_iff_eq];refine or_congr (and_congr Iff.rfl ?_) Iff.rfl;constructor
  ·intro hm c t f hc;rw[hc]at hm;cases hm
  intro hn;cases hv:V.heap[i]? with
  | none=>rfl
  | some o =>
   cases o with
   | cells c t f=>exact absurd hv (hn c t f)
   | _=>rfl
 refine⟨{ w with heap:=w.heap.mapIdx λi o=>if q i=true then .deferred none else o },?_,?_,?_⟩
 ·refine⟨λb c t f hb=>?_⟩;have h1:=H.data.cS b c t f hb;simp only[OB,h1,gQ,mR];rw[ae];intro hc;rcases(hq b).1 hc with⟨_,hn⟩|⟨r,hr,iX⟩
  ·exact hn c t f hb
  exact Hs.hid r hr b iX c t f hb
 ·have Mv:∀(b:Nat) (c:Array aj) (t:TypeId) (f:Nat×Nat),(w.heap.mapIdx λi o=>if q i=true then Obj.deferred none else o)[b]?=some (.cells c t f)->q b=false/\w.heap[b]?=some (.cells c t f):=by
   intro b c t f hb;rw[OB]at hb;obtain⟨o,ho,hb⟩:=iB.1 hb;split at hb
   ·cases hb
   rename_i hn;exact⟨by simpa using hn,by rw[ho,hb]⟩
  refine⟨H.base,?_,λb hb hn c t f hc=>?_,Hs.laid,Hs.new,λr hr b hb c t f hc=>?_,Hs.apart,⟨λb c t f hb=>(Mv b c t f hb).2⟩⟩
  ·refine⟨λb c t f hb=>?_⟩;have hb:=H.sub.cS b c t f hb;have h1:=H.data.cS b c t f hb;simp only[OB,h1,gQ,mR];rw[ae];intro hc;rcases(hq b).1 hc with⟨_,hn⟩|⟨r,hr,iX⟩
   ·exact hn c t f hb
   exact Hs.hid r hr b iX c t f hb
  ·have:=(Mv b c t f hc).1;have h2:=(hq b).2 (.inl ⟨hb,H.old b hb hn⟩);rw[this]at h2;cases h2
  have:=(Mv b c t f hc).1;have h2:=(hq b).2 (.inr ⟨r,hr,hb⟩);rw[this]at h2;cases h2
 intro b c t f mG hb hn;simp only[OB,hb,gQ,mR];rw[ae];intro hc;rcases(hq b).1 hc with⟨h1,_⟩|⟨r,hr,iX⟩
 ·omega
 exact hn r hr iX
theorem Rel.adl{s:Sl}{e:Nat}(H:Rel w0 V0 (.row s e sz xs::own) V w):∃V',Sub V V'/\Rel w0 V0 own V' w/\Cells V' s.a xs/\s.len<=s.cap/\xs.length=s.len*sz:=by
 obtain⟨V',h1,h2,h3⟩:=H.freeze (I7 _ _);have hr:Row w s e sz xs:=H.laid (.row s e sz xs) ah;refine⟨V',h1,h2,?_,hr.cap,hr.len⟩;rcases hr.at_ with⟨g1,g2,g3⟩|⟨b,cur,g1,g2,g3,g4,g5,g6⟩
 ·have:xs=[]:=dt (by rw[hr.len,g2];simp);subst this;exact⟨λh=>absurd rfl h,λj v hj=>by simp at hj⟩
 obtain⟨fz,g2,_⟩:=g2;have hv:=h3 b cur e fz (H.new (.row s e sz xs) ah b (by simp[aT.at_,g1])) g2 (λr hr iX=>(qv.1 H.apart).1 r hr b (by simp[aT.at_,g1]) iX);refine⟨λ_=>by rw[g1];rfl,λj v hj=>?_⟩;rw[g1];simp only[bW,bM,dR];rw[<-g6,BM]at hj;split at hj
 ·simp[World.cell?,hv];simpa using hj
 cases hj
theorem Rel.cU(H:Rel w0 V0 (.ay b l t::own) V w):∃V',Sub V V'/\Rel w0 V0 own V' w/\dN V' b l t:=by obtain⟨V',h1,h2,h3⟩:=H.freeze (I7 _ _);exact⟨V',h1,h2,h3 b l.toArray t (0,0) (H.new (.ay b l t) ah b rfl) (H.laid (.ay b l t) ah) (λr hr iX=>(qv.1 H.apart).1 r hr b rfl iX)⟩
theorem Rel.sV{c:aC}(H:Rel w0 V0 (.ay b c t::own) V w):dN w b c t:=Rel.sW H (i:=0) rfl
theorem Rel.QR(hT:cg P T){t ty e:TypeId}{d de:TD}(hd:T[t]?=some d)(hu:d.under=.slice e)(hde:T[e]?=some de){z:aj}(hz:de.zero=some z)(hzs:z.cells.size=de.size)(hsz:0<de.size)
  {s x:Sl} {xs ys:aC} (H:Rel w0 V0 (.row s e de.size xs::own) V w) (hx:Cells w x.a ys) (hxl:ys.length=x.len*de.size) (h1:∀u∈ys,u.oneCell'=true) (hb:(s.len+x.len)*de.bytes<=140737488355328) (hm:s.len+x.len<=4611686018427387904)
  {k:aj->ad->Prop} (hk:∀s' w',Rel w0 V0 (.row s' e de.size (xs++ys)::own) V w'->s'.len=s.len+x.len->k s'.v w'):bE P (Builtin.append_ #[t,t] ty #[s.v,x.v]) w k :=
 Rel.uc hT hd hu hde hz hzs hsz H (i:=0) rfl hx hxl h1 hb hm hk
theorem Rel.KF{r0 r1:aT}(hT:cg P T){t ty e:TypeId}{d de:TD}(hd:T[t]?=some d)(hu:d.under=.slice e)(hde:T[e]?=some de){z:aj}(hz:de.zero=some z)(hzs:z.cells.size=de.size)(hsz:0<de.size)
  {s x:Sl} {xs ys:aC} (H:Rel w0 V0 (r0::r1::.row s e de.size xs::own) V w) (hx:Cells w x.a ys) (hxl:ys.length=x.len*de.size) (h1:∀u∈ys,u.oneCell'=true) (hb:(s.len+x.len)*de.bytes<=140737488355328) (hm:s.len+x.len<=4611686018427387904)
  {k:aj->ad->Prop} (hk:∀s' w',Rel w0 V0 (r0::r1::.row s' e de.size (xs++ys)::own) V w'->s'.len=s.len+x.len->k s'.v w'):bE P (Builtin.append_ #[t,t] ty #[s.v,x.v]) w k :=
 Rel.uc hT hd hu hde hz hzs hsz H (i:=2) rfl hx hxl h1 hb hm hk
inductive At:List aT->aT->Prop where
 | h {r:aT} {l:List aT}:At (r::l) r
 | t {x r:aT} {l:List aT}:At l r->At (x::l) r
theorem At.idx{l:List aT}{r:aT}(h:At l r):∃i:Nat,l[i]?=some r:=by
 induction h with
 | h=>exact⟨0,rfl⟩
 | t _ ih=>obtain⟨i,hi⟩:=ih;exact⟨i+1,hi⟩
inductive zW:List aT->aT->(aT->List aT)->Prop where
 | h {r:aT} {l:List aT}:zW (r::l) r (λx=>x::l)
 | t {y r:aT} {l:List aT} {f:aT->List aT}:zW l r f->zW (y::l) r (λx=>y::f x)
theorem zW.idx{l:List aT}{r:aT}{f:aT->List aT}(h:zW l r f):∃i:Nat,l[i]?=some r/\∀x,l.set i x=f x:=by
 induction h with
 | h=>exact⟨0,rfl,λx=>rfl⟩
 | t _ ih=>obtain⟨i,hi,hf⟩:=ih;exact⟨i+1,hi,λx=>by rw[List.set_cons_succ,hf]⟩
theorem Rel.st(H:Rel w0 V0 own V w){b o:Nat}{c l:aC}{t:TypeId}{f:aT->List aT}{k:ad->Prop}(hk:gS c o l λc'=>∀w',Rel w0 V0 (f (.ay b c' t)) V w'->k w')(hm:zW own (.ay b c t) f:=by repeat constructor) :
  ∃c t',oR w b c t'/\gS c o l λc'=>∀w',mZ w b c' t' w'->k w':=by
 obtain⟨i,hi,hf⟩:=hm.idx;simp only[<-hf]at hk;exact Rel.storeAt H hi hk
theorem an{q:Prop}(hq:q)(hp:p:=by first|omega|assumption|exact rfl|exact aeY _|exact K.base):p/\q:=⟨hp,hq⟩
theorem ol{q r:Prop}(hq:q)(hp:p:=by first|omega|assumption):(p/\q)\/r:=.inl ⟨hp,hq⟩
theorem ea{α:Type}{p q:α->Prop}{x:α}(hq:q x)(hp:p x:=by assumption):∃x,p x/\q x:=⟨x,hp,hq⟩
theorem Rel.ce(H:Rel w0 V0 own V w){b o:Nat}{c:aC}{t:TypeId}{u:aj}{P:aj->Prop}(hk:P u)(hm:At own (.ay b c t):=by repeat constructor)(h:c[o]?=some u:=by rfl):∃u,w.cell? ⟨b,o,none⟩=some u/\P u :=
 let⟨_,hi⟩:=hm.idx;⟨u,H.KM hi h,hk⟩
theorem Rel.da(H:Rel w0 V0 own V w){a:Addr}{u:aj}{P:aj->Prop}(h:V.cell? a=some u)(hk:P u):∃u,w.cell? a=some u/\P u:=⟨u,H.Aw h,hk⟩
theorem Rel.db(H:Rel w0 V0 own V w){a:Addr}{u:aj}{P:aj->Prop}(hk:P u)(h:V.cell? a=some u:=by assumption):∃u,w.cell? a=some u/\P u:=⟨u,H.Aw h,hk⟩
theorem Rel.sx(H:Rel w0 V0 own V w){own':List aT}(h:own'.Sublist own:=by repeat (first|exact List.Sublist.refl _|exact List.nil_sublist _|refine List.Sublist.cons_cons _ ?_|refine List.Sublist.cons _ ?_)):Rel w0 V0 own' V w:=H.sl h
theorem cT{_:Decidable p}(h1:F true)(h2:¬p->False:=by(intro h;omega)):mA 0 (decide p) F:=gj (λ_=>h1) λh=>(h2 h).elim
theorem cF{_:Decidable p}(h1:F false)(h2:p->False:=by(intro h;omega)):mA 0 (decide p) F:=gj (λh=>(h2 h).elim) λ_=>h1
theorem cN{_:Decidable p}(h1:F true)(h2:p->False:=by(intro h;omega)):mA 0 (!decide p) F:=qX (λ_=>h1) λh=>(h2 h).elim
theorem cM{_:Decidable p}(h1:F false)(h2:¬p->False:=by(intro h;omega)):mA 0 (!decide p) F:=qX (λh=>(h2 h).elim) λ_=>h1
structure CD(p:Prop):Prop where
 go:p
theorem wk{G G':Prop}(h:G')(e:CD G'->G:=by(intro hw;(repeat ((conv=>whnf);first|refine an ?_|refine Rel.ce H ?_|refine Rel.db H ?_|refine ea ?_|refine ol ?_|refine cT ?_|refine cF ?_|refine cN ?_|refine cM ?_|refine H.da (hc1 _ _ bX) ?_|refine H.jy hc1 bX ?_|refine H.jx hc1 bX ?_|refine H.da (hc2 _ _ bX) ?_|refine H.jy hc2 bX ?_|refine H.jx hc2 bX ?_|refine H.da (hc3 _ _ bX) ?_|refine H.jy hc3 bX ?_|refine H.jx hc3 bX ?_|refine H.da (hc4 _ _ bX) ?_|refine H.jy hc4 bX ?_|refine H.jx hc4 bX ?_|refine Rel.lw H ?_|refine Rel.ll H ?_));(conv=>whnf);exact hw.go)):G:=e ⟨h⟩
theorem Rel.wn(_:Rel w0 V0 own V w){l:aC}{t:TypeId}{G:ad->Nat->Prop}{A:Prop}(k:∀w' b,Rel w0 V0 (.ay b l t::own) V w'->G w' b)(e:(∀w' b,Rel w0 V0 (.ay b l t::own) V w'->G w' b)->A:=by(intro hk;(repeat ((conv=>whnf);first|refine an ?_|refine Rel.ce H ?_|refine Rel.db H ?_|refine ea ?_|refine ol ?_|refine cT ?_|refine cF ?_|refine cN ?_|refine cM ?_|refine H.da (hc1 _ _ bX) ?_|refine H.jy hc1 bX ?_|refine H.jx hc1 bX ?_|refine H.da (hc2 _ _ bX) ?_|refine H.jy hc2 bX ?_|refine H.jx hc2 bX ?_|refine H.da (hc3 _ _ bX) ?_|refine H.jy hc3 bX ?_|refine H.jx hc3 bX ?_|refine H.da (hc4 _ _ bX) ?_|refine H.jy hc4 bX ?_|refine H.jx hc4 bX ?_|refine Rel.lw H ?_|refine Rel.ll H ?_));(conv=>whnf);first|exact Rel.qo H hk|exact Rel.nw H hk)):A:=e k
theorem Rel.wh(_:Rel w0 V0 own V w){G G':Prop}(h:G')(e:CD G'->G:=by(intro hw;(repeat ((conv=>whnf);first|refine an ?_|refine Rel.ce H ?_|refine Rel.db H ?_|refine ea ?_|refine ol ?_|(refine Rel.st H ?_;(conv=>whnf);(try clear H);intro wq H)|refine cT ?_|refine cF ?_|refine cN ?_|refine cM ?_|refine H.da (hc1 _ _ bX) ?_|refine H.jy hc1 bX ?_|refine H.jx hc1 bX ?_|refine H.da (hc2 _ _ bX) ?_|refine H.jy hc2 bX ?_|refine H.jx hc2 bX ?_|refine H.da (hc3 _ _ bX) ?_|refine H.jy hc3 bX ?_|refine H.jx hc3 bX ?_|refine H.da (hc4 _ _ bX) ?_|refine H.jy hc4 bX ?_|refine H.jx hc4 bX ?_|refine Rel.lw H ?_|refine Rel.ll H ?_));(conv=>whnf);revert H;(repeat revert wq);(repeat revert bq);exact hw.go)):G:=e ⟨h⟩
theorem Rel.zQ(_:Rel w0 V0 own V w){G G':Prop}(h:G')(e:CD G'->G:=by(intro hw;(repeat ((conv=>whnf);first|refine an ?_|refine Rel.ce H ?_|refine Rel.db H ?_|refine ea ?_|refine ol ?_|(refine Rel.st H ?_;(conv=>whnf);(try clear H);intro wq H)|refine cT ?_|refine cF ?_|refine cN ?_|refine cM ?_|refine H.da (hc1 _ _ bX) ?_|refine H.jy hc1 bX ?_|refine H.jx hc1 bX ?_|refine H.da (hc2 _ _ bX) ?_|refine H.jy hc2 bX ?_|refine H.jx hc2 bX ?_|refine H.da (hc3 _ _ bX) ?_|refine H.jy hc3 bX ?_|refine H.jx hc3 bX ?_|refine H.da (hc4 _ _ bX) ?_|refine H.jy hc4 bX ?_|refine H.jx hc4 bX ?_|refine Rel.lw H ?_|refine Rel.ll H ?_));(conv=>whnf);refine CD.go (p:=_) ?_;revert H;(repeat revert wq);(repeat revert bq);exact hw.go)):G:=e ⟨h⟩
theorem Rel.wg(_:Rel w0 V0 own V w){G G':Prop}(h:G')(e:CD G'->G:=by(intro hw;(repeat ((conv=>whnf);first|refine an ?_|((first|refine Rel.qo H ?_|refine Rel.nw H ?_);(try clear H);intro wq bq H)|refine Rel.ce H ?_|refine Rel.db H ?_|refine ea ?_|refine ol ?_|(refine Rel.st H ?_;(conv=>whnf);(try clear H);intro wq H)|refine cT ?_|refine cF ?_|refine cN ?_|refine cM ?_|refine H.da (hc1 _ _ bX) ?_|refine H.jy hc1 bX ?_|refine H.jx hc1 bX ?_|refine H.da (hc2 _ _ bX) ?_|refine H.jy hc2 bX ?_|refine H.jx hc2 bX ?_|refine H.da (hc3 _ _ bX) ?_|refine H.jy hc3 bX ?_|refine H.jx hc3 bX ?_|refine H.da (hc4 _ _ bX) ?_|refine H.jy hc4 bX ?_|refine H.jx hc4 bX ?_|refine Rel.lw H ?_|refine Rel.ll H ?_));(conv=>whnf);revert H;(repeat revert wq);(repeat revert bq);exact hw.go)):G:=e ⟨h⟩
end
theorem aM.C4{S:Type}{C:Cx}{c:Code}{env:Env}{ds:List Deferred}{w:ad}{Q:iJ}(M:S->Env)(I:S->ad->Prop)
  (h:aM C c env ds w (λe aO ds' w'=>match e with
   | .normal=>ds'=ds/\∃s,qI aO (M s)/\I s w'
   | e=>Q e aO ds' w'))
  (k:∀s w',I s w'->Q .normal (M s) ds w'):aM C c env ds w Q:=by
 refine⟨λa hs hn hd=>wpIn_mono (h.out a hs hn hd) λe a' w' ⟨h1,aO,h2,h3⟩=>?_⟩;cases e with
 | normal =>simp only at h3;obtain⟨hds,s,h4,h5⟩:=h3;exact⟨h1,M s,λt v ht=>h2 t v (tM h4 t v ht),by rw[hds];exact k s w' h5⟩
 | _=>exact⟨h1,aO,h2,h3⟩
section
variable{C:Cx}{ops:List Oper}{xs ys:au}{Rel:ad->ad->Prop}{Q:Exit->Act->ad->Prop}
theorem dI.swap{i j:Nat}{o x:Oper}(hR:∀a b c:ad,Rel a b->Rel b c->Rel a c)(hQ:∀d v ch a w,Q (.panic ch) (Act.put a d v) w->Q (.panic ch) a w)(hb:vu C.T ops.toArray xs ys j x i o=true){K:Act->ad->Prop}{a:Act}{w:ad}
  (h:dI C ops xs ys Rel Q j x (dI C ops xs ys Rel Q i o K) a w):dI C ops xs ys Rel Q i o (dI C ops xs ys Rel Q j x K) a w:=by
 simp only[vu,eD,rY,BJ,sf]at hb;obtain⟨⟨⟨⟨hq,Mo⟩,dC⟩,Ef⟩,hrd⟩:=hb;obtain⟨a1,a2,a3⟩:=Oper.apart_spec Mo;have Nl:∀cs b,x.op≠.select cs b:=λcs b e=>by rw[e]at dC;cases dC
 have ho:∀(K:Act->ad->Prop) (a:Act) (w:ad),dI C ops xs ys Rel Q j x K a w↔if Region.wanted x (yielded ops.toArray a.tmps)=true then(if mh C.T x.op=true then ∃v,(∀w1,(zm x.op=true->(j∈ys/\Rel w w1)\/w1=w)->(Oper.semAt C.r a.eval x).run C.P w1=.ok (.value v) w1)/\K (a.put x.dst v) w
   else x.wpIn (Fr C.r) 0 C.P a w (λa1 w1=>(j∈xs->Rel w w1)/\K a1 w1) Q)else K (a.put x.dst undef) w:=λ_ _ _=>Iff.rfl
 rw[ho]at h;split at h
 ·rename_i hw;obtain⟨v,hv,h⟩:=h;have h:=dI.GS Ef a1 a2 (hQ x.dst v) h;refine dI.mono h λb w1 ⟨u,hb⟩ Ek hg=>?_;have hev:b.eval=(a.put o.dst u).eval:=by funext z;cases z<;>simp[Act.eval,hb]
  rw[ho,hb,wanted_put (λt ht=>a3 t ht),ag hw,ag hq,hev,JN Nl (λt ht=>a3 t ht)];refine⟨v,λw2 h2=>hv w2 λhr=>?_,hg⟩;rcases Ek with rfl|⟨MW,hx⟩
  ·exact h2 hr
  rcases hrd with(hqo|hnr)|⟨hi,hj⟩
  ·simp[hqo]at MW
  ·simp[hr]at hnr
  rcases h2 hr with⟨_,h3⟩|rfl
  ·exact .inl ⟨hj,hR _ _ _ (hx hi) h3⟩
  exact .inl ⟨hj,hx hi⟩
 rename_i hw;have h:=dI.GS Ef a1 a2 (hQ x.dst undef) h;refine dI.mono h λb w1 ⟨u,hb⟩ Ek hg=>?_;rw[ho,hb,wanted_put (λt ht=>a3 t ht),ae hw];exact hg
end
theorem akp{C:Cx}(hT:cg C.P C.T){ops:List Oper}{xs ys:au}{Q:Exit->Act->ad->Prop}{K:Env->ad->Prop}{Z:List PanicEntry->ad->Prop}{ds:List Deferred}{i:Nat}{rest:au}{r:qQ}{G:Act->ad->Prop}
  (hZ:∀(a:Act) w ch,a.tmps.size=C.n->a.defers=ds->Z ch w->Q (.panic ch) a w) (hr:∀env (a:Act) w,Sat env a.tmps->a.tmps.size=C.n->a.defers=ds->r env w K Z->G a w) {env:Env} {a:Act} {w:ad} (hs:Sat env a.tmps) (hn:a.tmps.size=C.n) (hd:a.defers=ds)
  (h:Bw C ops xs i rest r env w K Z):∃o,ops[i]?=some o/\dI C ops xs ys Ext Q i o G a w:=by
 unfold Bw at h;obtain⟨o,ho,h⟩:=II h;refine⟨o,ho,?_⟩;simp only[dI];rcases AM h hs with⟨hw,aO,hs',h'⟩|⟨hw,aO,hs',h'⟩
 ·rw[ag hw];cases hq:mh C.T o.op with
  | true =>rw[ag rfl];obtain⟨v,h1,h2⟩:=Ko hT hs' hq h';refine⟨v,λw1 hr=>h1 w1 λh=>(hr h).elim (·.2) (λe=>e▸Ext.refl _),?_⟩;obtain⟨e6,h3,h4,h5,h6⟩:=mQ (Hb h2).2 hs' hn;exact hr _ _ _ h3 h4 (h5.trans hd) h6
  | false =>rw[ae ah];refine zP hT hs' h' (λv w' hk=>?_) (λch w' hz=>hZ a w' ch hn hd hz);obtain⟨h1,h2⟩:=Hb hk;refine⟨λhi=>h1 (uQ.2 hi),?_⟩;obtain⟨e6,h3,h4,h5,h6⟩:=mQ h2 hs' hn;exact hr _ _ _ h3 h4 (h5.trans hd) h6
 rw[ae (by simp[hw])];obtain⟨e6,h3,h4,h5,h6⟩:=mQ h' hs' hn;exact hr _ _ _ h3 h4 (h5.trans hd) h6
def uh(j:Nat):au->au
 | []=>[]
 | i::r=>match Nat.beq i j with
  | true=>r
  | false=>i::uh j r
theorem Sj{j:Nat}{A B:au}(h:j∉A):uh j (A++j::B)=A++B:=by
 induction A with
 | nil=>simp[uh]
 | cons x A ih =>
  have hx:Nat.beq x j=false:=by
   cases e:Nat.beq x j with
   | false=>rfl
   | true=>exact absurd (by rw[qt e];simp) h
  simp only[bb,uh,hx];rw[ih (λhc=>h (by simp[hc]))]
abbrev jw:=List (Nat×au)
def Hm(R:au):au->Bool
 | []=>true
 | x::r=>match oA x R with
  | true=>false
  | false=>Hm R r
theorem Tf{R an:au}(h:∀x∈an,x∉R):Hm R an=true:=by
 induction an with
 | nil=>rfl
 | cons x r ih =>
  have:oA x R=false:=by
   cases e:oA x R with
   | false=>rfl
   | true=>exact absurd (uQ.1 e) (h x ah)
  simp only[Hm,this];exact ih λy hy=>h y (by simp[hy])
def uf(R:au)(j:Nat)(an:au):Bool:=match oA j R with
 | true=>Hm R an
 | false=>false
def Gu(R:au):jw->Bool
 | []=>false
 | (j,an)::r=>match uf R j an with
  | true=>true
  | false=>Gu R r
def ot(i:Nat):jw->Bool
 | []=>false
 | (j,_)::r=>match Nat.beq i j with
  | true=>true
  | false=>ot i r
theorem U6{i:Nat}{E:jw}:ot i E=true↔∃an,(i,an)∈E:=by
 induction E with
 | nil=>simp[ot]
 | cons p r ih =>
  obtain⟨j,an⟩:=p;simp only[ot];cases e:Nat.beq i j with
  | true =>have:=qt e;subst this;simp only[true_iff];exact⟨an,ah⟩
  | false =>
   have hne:=Oy e;simp only;rw[ih];constructor
   ·rintro⟨a,ha⟩;exact⟨a,by simp[ha]⟩
   rintro⟨a,ha⟩;rcases bP.1 ha with h|h
   ·exact absurd (Prod.mk.inj h).1 hne
   exact⟨a,h⟩
def oX(R:au)(f:Nat->Prop):jw->Prop
 | []=>True
 | (j,an)::r=>match uf R j an with
  | true=>(match Gu R r with
   | true=>f j/\oX R f r
   | false=>f j)
  | false=>oX R f r
theorem Rh{R:au}{f:Nat->Prop}{E:jw}(h:oX R f E):∀j an,(j,an)∈E->uf R j an=true->f j:=by
 induction E with
 | nil=>intro j an hm;simp at hm
 | cons p r ih =>
  obtain⟨i,bn⟩:=p;intro j an hm hc;simp only[oX]at h;have aaM:∀(E:jw),(j,an)∈E->Gu R E=true:=by
   intro E;induction E with
   | nil=>intro h;simp at h
   | cons q E ihE =>
    obtain⟨k,cn⟩:=q;intro hq;simp only[Gu];cases hk:uf R k cn with
    | true=>rfl
    | false =>
     rcases bP.1 hq with e|hq
     ·cases e;rw[hc]at hk;cases hk
     exact ihE hq
  rcases bP.1 hm with e|hm
  ·cases e;rw[hc]at h;simp only at h;split at h
   ·exact h.1
   exact h
  have ha:=aaM r hm;cases hi:uf R i bn with
  | true=>rw[hi,ha]at h;exact ih h.2 j an hm hc
  | false=>rw[hi]at h;exact ih h j an hm hc
section
variable{C:Cx}{ops:List Oper}{xs ys:au}{Rel:ad->ad->Prop}{Q:Exit->Act->ad->Prop}
variable(C ops xs ys Rel Q)in
def iV(E:jw):Nat->au->Act->ad->Prop
 | 0,_,a,w=>Q .normal a w
 | _+1,[],a,w=>Q .normal a w
 | n+1,i::r,a,w=>match ot i E with
  | true=>oX (i::r) (λj=>∀o,ops[j]?=some o->dI C ops xs ys Rel Q j o (iV E n (uh j (i::r))) a w) E
  | false=>∀o,ops[i]?=some o->dI C ops xs ys Rel Q i o (iV E n r) a w
def uV(T:List TD)(ops:List Oper)(xs ys:au)(E:jw):au->Bool
 | []=>true
 | x::r=>(match ops[x]? with
  | some ox=>r.all λi=>(nb ops ops.length i).contains x||(ot x E&&ot i E)||(!ot x E&&(match ops[i]? with
   | some oi=>vu T ops.toArray xs ys x ox i oi
   | none=>false))
  | none=>false)&&uV T ops xs ys E r
theorem ahi{E:jw}{A B:au}{i:Nat}:uV C.T ops xs ys E (A++i::B)=true->uV C.T ops xs ys E (A++B)=true:=by
 induction A with
 | nil=>intro h;simp only[aL,uV,eD]at h |-;exact h.2
 | cons x A ih =>
  intro h;simp only[bb,uV,eD]at h |-;refine⟨?_,ih h.2⟩;have h1:=h.1;cases ho:ops[x]? with
  | none=>simp[ho]at h1
  | some o =>
   simp only[ho]at h1;refine bc.2 λj hj=>bc.1 h1 j ?_;simp only[cc,bP]at hj |-;rcases hj with hj|hj
   ·exact .inl hj
   exact .inr (.inr hj)
theorem iV.move{E:jw}{i:Nat}{o:Oper}{B:au}(ho:ops[i]?=some o)(hR:∀a b c:ad,Rel a b->Rel b c->Rel a c)(hQ:∀d v ch a w,Q (.panic ch) (Act.put a d v) w->Q (.panic ch) a w)
  (hE:∀an,(i,an)∈E->∀x∈an,x∈nb ops ops.length i):∀ {A:au} {n:Nat} {a:Act} {w:ad},(A++i::B).length=n+1->(A++i::B).Nodup->(∀x∈A++i::B,x∉nb ops ops.length i) ->
  uV C.T ops xs ys E (A++i::B)=true->iV C ops xs ys Rel Q E (n+1) (A++i::B) a w->dI C ops xs ys Rel Q i o (iV C ops xs ys Rel Q E n (A++B)) a w
 | [],n,a,w,hl,gb,hna,hp,h=>by
  simp only[aL]at h hna |-;simp only[iV]at h;cases he:ot i E with
  | false=>rw[he]at h;exact h o ho
  | true =>
   rw[he]at h;obtain⟨an,DC⟩:=U6.1 he;have hc:uf (i::B) i an=true:=by unfold uf;rw[uQ.2 ah];exact Tf λx hx hm=>hna x hm (hE an DC x hx)
   have:=Rh h i an DC hc o ho;have e:uh i (i::B)=B:=Sj (A:=[]) ah;rw[e]at this;exact this
 | x::A,n,a,w,hl,gb,hna,hp,h=>by
  have vU:=hp;simp only[bb,uV,eD]at hp;cases he:ot x E with
  | false =>
   obtain⟨m,rfl⟩:∃m,n=m+1:=⟨n-1,by simp at hl;omega⟩
   have h1:=hp.1;cases hx:ops[x]? with
   | none=>rw[hx]at h1;cases h1
   | some ox =>rw[hx]at h1;have h1:=bc.1 h1 i ah;rw[he,ho]at h1;simp only[qw,Bool.or_false,Bool.not_false,oJ,rY,sf]at h1;have hb:=h1.resolve_left (hna x ah);simp only[bb,iV,he]at h;have h2:=dI.swap hR hQ hb (dI.mono (h ox hx) λa1 w1 _ _ hg=>iV.move (B:=B) ho hR hQ hE (A:=A) (by simp at hl |-;omega) (E1.1 gb).2 (λy hy=>hna y (by simp at hy |-;exact .inr hy)) hp.2 hg);refine dI.mono h2 λa1 w1 _ _ hg=>?_;simp only[bb,iV,he];intro o' mK;rw[hx]at mK;cases mK;exact hg
  | true =>
   simp only[bb,iV,he]at h;have h1:=hp.1;cases hx:ops[x]? with
   | none=>rw[hx]at h1;cases h1
   | some ox =>
    rw[hx]at h1;have h1:=bc.1 h1 i ah;rw[he,ho]at h1;simp only[BX,qw,Bool.or_false,oJ,rY,sf]at h1;have Uk:=h1.resolve_left (hna x ah);obtain⟨an,DC⟩:=U6.1 Uk;have hc:uf (x::(A++i::B)) i an=true:=by unfold uf;rw[uQ.2 ah];exact Tf λy hy hm=>hna y (by simpa using hm) (hE an DC y hy)
    have:=Rh h i an DC hc o ho;have yt:i∉x::A:=by intro hc;have:=rZ.1 (show((x::A)++i::B).Nodup from gb);exact this.2.2 i hc i ah rfl
    have e:uh i (x::(A++i::B))=x::A++B:=Sj (A:=x::A) yt;rw[e]at this;exact this
theorem iV.any{E:jw}(Mg:∀a b c:ad,Rel a b->Rel b c->Rel a c)(hQ:∀d v ch a w,Q (.panic ch) (Act.put a d v) w->Q (.panic ch) a w)(hE:∀i an,(i,an)∈E->∀x∈an,x∈nb ops ops.length i):∀(fuel:Nat) (R:au) (listed:Array Bool) (a:Act) (w:ad),R.length<=fuel->R.Nodup->listed.size=ops.length ->
  (∀i,i<ops.length->(listed.getD i true=false↔i∈R))->(∀i∈R,i<ops.length)->(∀i o,ops[i]?=some o->listed.getD i true=true->∀j∈tx o,listed.getD j false=true) ->
  qL ops R=true->uV C.T ops xs ys E R=true->iV C ops xs ys Rel Q E R.length R a w->wpAnyIn (Fr C.r) 0 C.P .any ops.toArray Q fuel listed a w:=by
 intro fuel;induction fuel with
 | zero =>intro R listed a w hl gb hsz hR hlt hcl ht hp h;have:R=[]:=dt aa;subst this;refine⟨?_,h⟩;rw[ahP];intro i hi;obtain⟨o,ho,h1,_⟩:=B7.1 hi;exact absurd ((hR i (dH.1 ho).1).1 h1) ah
 | succ fuel ih =>
  intro R listed a w hl gb hsz hR hlt hcl ht hp h;have yg:∀j,j<ops.length->listed.getD j false=listed.getD j true:=by intro j hj;have:j<listed.size:=aa;simp[Array.getD,this]
  have DT:∀j,listed.getD j false=true->listed.getD j true=true:=by
   intro j hj;by_cases hlt:j<listed.size
   ·simpa [Array.getD,hlt]using hj
   simp[Array.getD,hlt]at hj
  refine⟨λDZ=>?_,λi hi=>?_⟩
  ·cases R with
   | nil=>exact h
   | cons x R =>
    exfalso;simp only[qL,eD]at ht;have hx:x∈Region.ready .any ops.toArray listed:=by
     have h1:=ht.1;split at h1
     ·rename_i o ho;refine B7.2 ⟨o,ho,(hR x (hlt x ah)).2 ah,λj hj=>?_⟩;have:=bc.1 h1 j hj;simp only[eD,eQ,BJ,<-EZ,sf]at this;rw[yg j this.1];cases hv:listed.getD j true with
      | true=>rfl
      | false=>exact absurd ((hR j this.1).1 hv) this.2
     cases h1
    rw[DZ]at hx;simp at hx
  obtain⟨o,ho,h1,h2⟩:=B7.1 hi;have MJ:=(dH.1 ho).1;have MI:=(hR i MJ).1 h1;obtain⟨A,B,rfl⟩:=E0 MI;have hna:∀x∈A++i::B,x∉nb ops ops.length i:=by intro x hx hc;have hxl:=QN hcl DT ops.length i o ho h2 x hc;have Nv:=hlt x hx;have:=(hR x Nv).2 hx;rw[DT x hxl]at this;cases this
  have hlen:(A++i::B).length=(A++B).length+1:=by simp;omega
  rw[hlen]at h;have hm:=iV.move ho Mg hQ (hE i) hlen gb hna hp h;refine wpOpIn_mono (λa1 w1 hg=>?_) (dI.sound ho hm);have yt:i∉A++B:=by
   have:=gb;rw[rZ]at this;intro hc;rcases cc.1 hc with hc|hc
   ·exact this.2.2 i hc i ah rfl
   exact(E1.1 this.2.1).1 hc
  have uF:∀j d,(listed.setIfInBounds i true).getD j d=if i=j then true else listed.getD j d:=by
   intro j d;by_cases hj:j<listed.size
   ·by_cases e:i=j
    ·subst e;simp[Array.getD,hj]
    simp[Array.getD,hj,e]
   by_cases e:i=j
   ·subst e;omega
   simp[Array.getD,hj,e]
  refine ih (A++B) _ a1 w1 (by simp at hl |-;omega) ?_ (by simpa using hsz) ?_ ?_ ?_ (YP ht) (ahi hp) hg
  ·have:=gb;rw[rZ]at this |-;refine⟨this.1,(E1.1 this.2.1).2,λx hx y hy=>this.2.2 x hx y (by simp[hy])⟩
  ·intro j hj;rw[uF];by_cases e:i=j
   ·subst e;simp only[if_true];exact⟨λh=>(by cases h),λh=>absurd h yt⟩
   rw[ae e,hR j hj];simp only[cc,bP];constructor
   ·rintro(h|h|h)
    ·exact .inl h
    ·exact absurd h.symm e
    exact .inr h
   rintro(h|h)
   ·exact .inl h
   exact .inr (.inr h)
  ·intro j hj;refine hlt j ?_;simp only[cc,bP]at hj |-;rcases hj with hj|hj
   ·exact .inl hj
   exact .inr (.inr hj)
  intro j oj rH yo k hk;rw[uF]at yo |-;by_cases e:i=j
  ·subst e;rw[ho]at rH;cases rH;have:=h2 k hk;split
   ·rfl
   exact this
  rw[ae e]at yo;have:=hcl j oj rH yo k hk;split
  ·rfl
  exact this
end
abbrev tY:=au->qQ
def Wd:tY:=λ_=>IJ
def Of(C:Cx)(ops:List Oper)(xs:au)(E:jw)(_:Nat)(_:au)(r:tY):tY:=λR env w K Z=>match R with
 | []=>K env w
 | i::rest=>match ot i E with
  | true=>oX (i::rest) (λj=>Bw C ops xs j [] (r (uh j (i::rest))) env w K Z) E
  | false=>Bw C ops xs i [] (r rest) env w K Z
noncomputable def Km(C:Cx)(ops:List Oper)(xs:au)(E:jw)(l:au):tY:=List.rec (motive:=λ_=>tY) Wd (Of C ops xs E) l
theorem ZB{C:Cx}(hT:cg C.P C.T){ops:List Oper}{xs ys:au}{E:jw}{Q:Exit->Act->ad->Prop}{K:Env->ad->Prop}{Z:List PanicEntry->ad->Prop}{ds:List Deferred}
  (hQ:∀env (a:Act) w,Sat env a.tmps->a.tmps.size=C.n->a.defers=ds->K env w->Q .normal a w) (hZ:∀(a:Act) w ch,a.tmps.size=C.n->a.defers=ds->Z ch w->Q (.panic ch) a w) :
  ∀ {l R:au} {env:Env} {a:Act} {w:ad},Sat env a.tmps->a.tmps.size=C.n->a.defers=ds->Km C ops xs E l R env w K Z->iV C ops xs ys Ext Q E l.length R a w
 | [],R,env,a,w,hs,hn,hd,h=>hQ env a w hs hn hd h
 | f::l,[],env,a,w,hs,hn,hd,h=>hQ env a w hs hn hd h
 | f::l,i::rest,env,a,w,hs,hn,hd,h=>by
  have h:Of C ops xs E f l (Km C ops xs E l) (i::rest) env w K Z:=h;have one:∀j R',Bw C ops xs j [] (Km C ops xs E l R') env w K Z->∀o,ops[j]?=some o->dI C ops xs ys Ext Q j o (iV C ops xs ys Ext Q E l.length R') a w:=by intro j R' hj o ho;obtain⟨o',mK,h'⟩:=akp (ys:=ys) (G:=iV C ops xs ys Ext Q E l.length R') hT hZ (λenv a w h1 h2 h3 h4=>ZB hT hQ hZ h1 h2 h3 h4) hs hn hd hj;rw[ho]at mK;cases mK;exact h'
  unfold Of at h;simp only[List.length_cons,iV];cases he:ot i E with
  | false =>simp only[he]at h;exact one i rest h
  | true =>
   simp only[he]at h |-;have mono:∀(E':jw) (f g:Nat->Prop),(∀j,f j->g j)->oX (i::rest) f E'->oX (i::rest) g E':=by
    intro E' f g DR;induction E' with
    | nil=>exact λh=>h
    | cons p E' ih =>
     obtain⟨j,an⟩:=p;simp only[oX];split
     ·split
      ·exact λh=>⟨DR j h.1,ih h.2⟩
      exact DR j
     exact ih
   exact mono E _ _ (λj hj=>one j _ hj) h
def ES(T:List TD)(ops:List Oper)(xs ys π:au)(E:jw):Bool :=
 qL ops π&&uV T ops xs ys E π&&((bZ ops.length).all λi=>π.contains i)&&decide (π.length=ops.length)&&decide π.Nodup&&(π.all λi=>decide (i<ops.length))&&E.all λp=>p.2.all λx=>(nb ops ops.length p.1).contains x
theorem Li{C:Cx}(hT:cg C.P C.T)(hm:C.P.follows .mixedOrders=true){id:Nat}{ops:Array Oper}{env:Env}{ds:List Deferred}{w:ad}{Q:iJ}(xs π:au)(E:jw)
  (hok:ES C.T ops.toList xs π π E=true)
  (h:∀w1,CB w w1->Km C ops.toList xs E π π env w1 (λaO w'=>mO aO C.live λe'=>Q .normal e' ds w') (λch w'=>Q (.panic ch) [] ds w')) :
  aM C (.region id ops true) env ds w Q:=by
 refine⟨λa hs hn hd=>?_⟩;simp only[ES,eD,eQ]at hok;obtain⟨⟨⟨⟨⟨⟨ht,hp⟩,hall⟩,hlen⟩,yu⟩,yp⟩,hE⟩:=hok;have hmem:∀i,i<ops.toList.length->i∈π:=λi hi=>by simpa using bc.1 hall i (by simpa using hi)
 have key:=h { w with drawn:=w.drawn+1 } ⟨rfl,rfl,rfl,rfl,aQ _,λ_ _=>rfl⟩;let Q':Exit->Act->ad->Prop:=λe a' w'=>a'.tmps.size=C.n/\match e with
  | .panic ch=>Q (.panic ch) [] a'.defers w'
  | e=>∃aO,Sat aO a'.tmps/\Q e aO a'.defers w'
 refine wpIn_mono (Q:=Q') ?_ (λe a' w' hq=>?_)
 ·refine wpIn_region_any hm ?_;have hg:iV C ops.toList xs π Ext Q' E π.length π a { w with drawn:=w.drawn+1 }:=by
   refine ZB hT (ds:=ds) (λaO a' w' h1 h2 h3 h4=>?_) (λa' w' ch h1 h2 h3=>?_) hs hn hd key
   ·obtain⟨e',h5,h6⟩:=tz h4;exact⟨h2,e',λt v ht=>h1 t v (h5 t v ht),h3▸h6⟩
   exact⟨h1,h2▸h3⟩
  have hlt:∀i∈π,i<ops.toList.length:=λi hi=>by simpa using bc.1 yp i hi
  have:=iV.any (C:=C) (ops:=ops.toList) (xs:=xs) (ys:=π) (Rel:=Ext) (Q:=Q') (λ_ _ _ h k=>Ext.trans h k) (λd v ch a w hq=>by
   obtain⟨h1,h2⟩:=hq;refine⟨?_,?_⟩
   ·cases d<;>simpa [Act.put]using h1
   cases d<;>exact h2) (λi an hi x hx=>by simpa using bc.1 (bc.1 hE _ hi) x hx) ops.size π (Array.replicate ops.size false) a { w with drawn:=w.drawn+1 } (by simp[hlen]) yu ah (λi hi=>?_) hlt (λi o ho hl=>?_) ht hp hg
  ·simpa using this
  ·have:i<ops.size:=by simpa using hi
   simp[Array.getD,this,hmem i hi]
  have:i<ops.size:=by simpa using(dH.1 ho).1
  simp[Array.getD,this]at hl
 obtain⟨h1,h2⟩:=hq;cases e with
 | panic ch=>exact⟨h1,[],Sat.nil _,h2⟩
 | _=>exact⟨h1,h2⟩
section
variable{C:Cx}{env:Env}{ds:List Deferred}{w:ad}{Q:iJ}
theorem aM.seq{x y:Code}(h:aM C x env ds w λe aO ds' w'=>match e with
  | .normal=>aM C y aO ds' w' Q
  | e=>Q e aO ds' w'):aM C (.seq x y) env ds w Q:=by
 refine⟨λa hs hn hd=>wpIn_seq (wpIn_mono (h.out a hs hn hd) λe a' w' ⟨h1,aO,h2,h3⟩=>?_)⟩;cases e with
 | normal=>exact h3.out a' h2 h1 rfl
 | _=>exact⟨h1,aO,h2,h3⟩
theorem aM.cA(hT:cg C.P C.T){x y:Code}(h:jh C x env ds w λe aO ds' w'=>match e with
  | .normal=>aM C y aO ds' w' Q
  | e=>Q e aO ds' w'):aM C (.seq x y) env ds w Q:=aM.seq (tT hT h)
theorem aM.lq{S:Type}(hT:cg C.P C.T)(M:S->Env)(I:S->ad->Prop){x y:Code}(h:jh C x env ds w λe aO ds' w'=>match e with
  | .normal=>ds'=ds/\∃s,qI aO (M s)/\I s w'
  | e=>Q e aO ds' w')(k:∀s w',I s w'->aM C y (M s) ds w' Q):aM C (.seq x y) env ds w Q :=
 aM.seq (aM.C4 M I (aM.mono (tT hT h) λe env ds w h=>by cases e<;>exact h) k)
theorem aM.go(hT:cg C.P C.T){x:Code}(h:jh C x env ds w Q):aM C x env ds w Q:=tT hT h
end
theorem nX{P:Program}{T:List TD}(hT:cg P T){f:FuncId}{fn:Func}{c:Code}{args:aC}{w:ad}{K:aj->ad->Prop}{Z:List PanicEntry->ad->Prop}
  (hf:P.funcs[f]?=some fn) (hb:fn.body=some c) (hname:(fn.name == "runtime.NumGoroutine")=false) (n:Nat) (hn:fn.ntmps=n) (ha:args.length<=n) (live:au)
  (h:aM ⟨P,T,n,live,none⟩ c (nc 0 args) [] w (LD ⟨P,T,n,live,none⟩ fn.results.toList K Z)):cR P f args.toArray w K Z:=by
 refine⟨.inl ⟨xG hf (by simp[hb]) hname,(CS (r:=none) (n:=0)).1 ?_⟩⟩;refine callsIn_of_wp_marks hf hb trivial ?_;have hs:Sat (nc 0 args) (args.toArray++Array.replicate (fn.ntmps-args.toArray.size) undef):=Gw;refine wpIn_mono (h.out { tmps:=args.toArray++Array.replicate (fn.ntmps-args.toArray.size) undef,defers:=[] } hs (by simp;omega) rfl) ?_;rintro e a w'⟨h1,aO,h2,h3⟩;have fin:∀ {ds w},(uP ds w λw'=>tG ⟨P,T,n,live,none⟩ fn.results.toList aO w' λv=>K v w')->LeavesInM (Fr none) 0 P fn a.tmps (λe w'=>match e with|.returned v=>K v w'|.panicked ch=>Z ch w'|.outgrown=>False) ds .returning w:=by intro ds w h;refine ED ah h λw' h=>?_;obtain⟨v,hr,hk⟩:=JD (C:=⟨P,T,n,live,none⟩) hT h2 h;exact⟨v,hr,hk⟩
 cases e with
 | normal=>exact fin h3
 | ret=>exact fin h3
 | panic ch=>exact ED ah h3 λw' h=>h
 | exit id=>exact h3.elim
 | goto l=>exact h3.elim
 | outgrown=>exact h3.elim
abbrev aE:TD:=⟨.func,1,8,some (.nilFunc),false⟩
abbrev sY:TD:=⟨.other,1,0,some (.tuple #[.slice none 0 0,.bool false]),false⟩
abbrev vA:TD:=⟨.struct [(0,3),(1,22)],2,32,some (.agg #[.int .i64 0,.slice none 0 0]),false⟩
abbrev C8:TD:=⟨.iface,1,16,some (.nilIface),false⟩
abbrev C9:TD:=⟨.other,1,0,some (.tuple #[.slice none 0 0,.int .i64 0,.agg #[.int .i64 0,.int .i64 0]]),false⟩
abbrev GW:TD:=⟨.int .u8,1,1,some (.int .u8 0),false⟩
abbrev GX:TD:=⟨.other,1,0,some (.tuple #[.slice none 0 0,.slice none 0 0]),false⟩
abbrev K9:TD:=⟨.int .i64,1,8,some (.int .i64 0),false⟩
abbrev La:TD:=⟨.string,1,16,some (.string ⟨#[]⟩),false⟩
abbrev Lb:TD:=⟨.int .u64,1,8,some (.int .u64 0),false⟩
abbrev K4:TD:=⟨.int .i32,1,4,some (.int .i32 0),false⟩
abbrev K5:TD:=⟨.struct [(0,3),(1,3)],2,16,some (.agg #[.int .i64 0,.int .i64 0]),false⟩
abbrev K6:TD:=⟨.struct [],0,0,some (.agg #[]),false⟩
abbrev K7:TD:=⟨.other,1,0,some (.tuple #[.slice none 0 0,.int .i64 0]),false⟩
abbrev K8:TD:=⟨.other,1,0,some (.tuple #[.slice none 0 0,.slice none 0 0,.bool false]),false⟩
abbrev RB:TD:=⟨.struct [(0,2),(1,3),(2,4),(3,6)],4,24,some (.agg #[.int .i64 0,.int .i64 0,.bool false,.int .u8 0]),false⟩
abbrev RC:TD:=⟨.struct [(0,9),(1,12)],2,24,some (.agg #[.string ⟨#[]⟩,.int .u64 0]),false⟩
abbrev RD:TD:=⟨.struct [(0,17)],1,8,some (.agg #[.pointer none]),false⟩
abbrev RE:TD:=⟨.struct [(0,3),(1,3),(2,22),(3,24),(4,25)],5,88,some (.agg #[.int .i64 0,.int .i64 0,.slice none 0 0,.slice none 0 0,.slice none 0 0]),false⟩
abbrev RF:TD:=⟨.struct [(0,3),(1,27),(6,22)],7,120,some (.agg #[.int .i64 0,.int .i64 0,.int .i64 0,.slice none 0 0,.slice none 0 0,.slice none 0 0,.slice none 0 0]),false⟩
abbrev RG:TD:=⟨.other,1,0,some (.tuple #[.slice none 0 0,.agg #[.int .i64 0,.int .i64 0]]),false⟩
abbrev RH:TD:=⟨.other,1,0,some (.tuple #[.agg #[.int .i64 0,.int .i64 0,.slice none 0 0,.slice none 0 0,.slice none 0 0],.slice none 0 0,.bool false]),false⟩
abbrev RI:TD:=⟨.struct [(0,56),(1,63),(2,68)],3,24,some (.agg #[.nilFunc,.nilFunc,.nilFunc]),false⟩
abbrev RJ:TD:=⟨.struct [(0,3),(1,3),(2,3),(3,22)],4,48,some (.agg #[.int .i64 0,.int .i64 0,.int .i64 0,.slice none 0 0]),false⟩
abbrev RM:TD:=⟨.struct [(0,106),(1,50),(2,4)],3,56,some (.agg #[.slice none 0 0,.slice none 0 0,.bool false]),false⟩
abbrev RN:TD:=⟨.other,1,0,some (.tuple #[.int .i64 0,.slice none 0 0,.bool false]),false⟩
abbrev RO:TD:=⟨.struct [(0,3),(1,146)],2,32,some (.agg #[.int .i64 0,.slice none 0 0]),false⟩
abbrev RP:TD:=⟨.other,1,0,some (.tuple #[.agg #[.int .i64 0,.slice none 0 0],.bool false]),false⟩
abbrev RQ:TD:=⟨.struct [(0,3),(1,158)],2,32,some (.agg #[.int .i64 0,.slice none 0 0]),false⟩
abbrev RR:TD:=⟨.other,1,0,some (.tuple #[.int .i64 0,.int .i64 0,.slice none 0 0,.bool false]),false⟩
abbrev RT:TD:=⟨.struct [(0,3),(1,3),(2,3)],3,24,some (.agg #[.int .i64 0,.int .i64 0,.int .i64 0]),false⟩
abbrev RU:TD:=⟨.struct [(0,171),(3,50),(4,172)],5,72,some (.agg #[.int .i64 0,.int .i64 0,.int .i64 0,.slice none 0 0,.slice none 0 0]),false⟩
abbrev RV:TD:=⟨.struct [(0,3),(1,4)],2,16,some (.agg #[.int .i64 0,.bool false]),false⟩
abbrev RW:TD:=⟨.struct [(0,185),(2,106),(3,50),(4,4)],5,72,some (.agg #[.int .i64 0,.bool false,.slice none 0 0,.slice none 0 0,.bool false]),false⟩
abbrev RX:TD:=⟨.struct [(0,22),(1,3),(2,9),(3,202)],4,56,some (.agg #[.slice none 0 0,.int .i64 0,.string ⟨#[]⟩,.map none]),false⟩
abbrev RY:TD:=⟨.struct [(0,209),(1,50),(2,3)],3,56,some (.agg #[.slice none 0 0,.slice none 0 0,.int .i64 0]),false⟩
abbrev RZ:TD:=⟨.struct [(0,27),(5,50)],6,112,some (.agg #[.int .i64 0,.int .i64 0,.slice none 0 0,.slice none 0 0,.slice none 0 0,.slice none 0 0]),false⟩
abbrev R0:TD:=⟨.struct [(0,5),(1,5)],2,2,some (.agg #[.int .u8 0,.int .u8 0]),false⟩
abbrev R1:TD:=⟨.struct [(0,5),(1,22)],2,32,some (.agg #[.int .u8 0,.slice none 0 0]),false⟩
abbrev R2:TD:=⟨.struct [(0,279),(2,3)],3,40,some (.agg #[.int .u8 0,.slice none 0 0,.int .i64 0]),false⟩
abbrev R3:TD:=⟨.struct [(0,22),(1,3),(2,9),(3,195)],4,72,some (.agg #[.slice none 0 0,.int .i64 0,.string ⟨#[]⟩,.slice none 0 0]),false⟩
abbrev R4:TD:=⟨.struct [(0,185),(2,22)],3,40,some (.agg #[.int .i64 0,.bool false,.slice none 0 0]),false⟩
abbrev R5:TD:=⟨.array 256 4,256,256,some (.agg (eP 256 (.bool false)).toArray),false⟩
abbrev R6:TD:=⟨.other,1,0,some (.tuple #[.int .i64 0,.nilIface]),false⟩
abbrev R7:TD:=⟨.other,1,0,some (.tuple #[.int .u64 0,.int .u64 0]),false⟩
abbrev R8:TD:=⟨.struct [(0,9),(1,9),(2,369)],3,48,some (.agg #[.string ⟨#[]⟩,.string ⟨#[]⟩,.nilIface]),false⟩
abbrev R9:TD:=⟨.struct [(0,9)],1,16,some (.agg #[.string ⟨#[]⟩]),false⟩
abbrev Sa:TD:=⟨.struct [(0,17),(1,17),(2,17),(3,9)],4,40,some (.agg #[.pointer none,.pointer none,.pointer none,.string ⟨#[]⟩]),false⟩
abbrev Sb:TD:=⟨.blank,0,0,some (.agg #[]),false⟩
abbrev Sc:TD:=⟨.struct [(0,12),(1,12),(2,321),(3,431),(4,5),(5,5),(6,432),(7,433),(8,420),(9,434),(10,435)],11,48,some (.agg #[.int .u64 0,.int .u64 0,.int .u32 0,.int .u8 0,.int .u8 0,.int .u8 0,.int .u8 0,.nilFunc,.pointer none,.int .i32 0,.int .i32 0]),false⟩
def lB:List TD:=[⟨.other,1,0,some (.tuple #[]),false⟩,aE,K9,K9,⟨.bool,1,1,some (.bool false),false⟩,GW,GW,RB,RB,La,La,La,Lb,RC,RC,⟨.pointer 427,1,8,some (.pointer none),false⟩,⟨.pointer 430,1,8,some (.pointer none),false⟩,⟨.pointer 437,1,8,some (.pointer none),false⟩,RD,RD,C8,K4,⟨.slice 5,1,24,some (.slice none 0 0),false⟩,aE,⟨.slice 9,1,24,some (.slice none 0 0),false⟩,⟨.slice 27,1,24,some (.slice none 0 0),false⟩,RE,RE,RF,RF,K5,⟨.struct [(0,3),(1,3)],2,16,some (.agg #[.int .i64 0,.int .i64 0]),true⟩,⟨.other,1,0,some (.tuple #[.agg #[.int .i64 0,.int .i64 0,.int .i64 0,.slice none 0 0,.slice none 0 0,.slice none 0 0,.slice none 0 0],.agg #[.int .i64 0,.int .i64 0]]),false⟩,aE,aE,aE,aE,aE,RG,aE,aE,aE,⟨.slice 71,1,24,some (.slice none 0 0),false⟩,RG,aE,aE,aE,sY,aE,aE,⟨.slice 3,1,24,some (.slice none 0 0),false⟩,C8,C8,⟨.other,1,0,some (.tuple #[.nilIface,.bool false]),false⟩,aE,⟨.other,1,0,some (.tuple #[.agg #[.int .i64 0,.int .i64 0,.slice none 0 0,.slice none 0 0,.slice none 0 0],.slice none 0 0,.agg #[.int .i64 0,.int .i64 0]]),false⟩,aE,K6,K6,aE,RH,aE,aE,aE,aE,aE,sY,aE,aE,aE,⟨.struct [(0,9),(1,3)],2,24,some (.agg #[.string ⟨#[]⟩,.int .i64 0]),false⟩,⟨.struct [(0,9),(1,3)],2,24,some (.agg #[.string ⟨#[]⟩,.int .i64 0]),true⟩,RI,RI,⟨.array 7 52,7,112,some (.agg #[.nilIface,.nilIface,.nilIface,.nilIface,.nilIface,.nilIface,.nilIface]),false⟩,aE,⟨.slice 80,1,24,some (.slice none 0 0),false⟩,sY,aE,vA,vA,aE,aE,aE,aE,aE,RJ,RJ,K7,aE,aE,aE,aE,aE,aE,aE,⟨.slice 22,1,24,some (.slice none 0 0),false⟩,sY,aE,⟨.slice 101,1,24,some (.slice none 0 0),false⟩,vA,vA,aE,aE,aE,aE,⟨.slice 96,1,24,some (.slice none 0 0),false⟩,RM,RM,⟨.other,1,0,some (.tuple #[.agg #[.slice none 0 0,.slice none 0 0,.bool false],.bool false]),false⟩,aE,aE,aE,K8,aE,⟨.other,1,0,some (.tuple #[.agg #[.int .i64 0,.int .i64 0,.slice none 0 0,.slice none 0 0,.slice none 0 0],.int .i64 0,.bool false]),false⟩,aE,GX,aE,K7,aE,GX,aE,⟨.slice 50,1,24,some (.slice none 0 0),false⟩,GX,aE,aE,sY,aE,RN,aE,aE,Lb,⟨.other,1,0,some (.tuple #[.int .i64 0,.slice none 0 0,.slice none 0 0,.bool false]),false⟩,aE,aE,aE,aE,K8,aE,aE,⟨.slice 21,1,24,some (.slice none 0 0),false⟩,K7,aE,aE,aE,⟨.slice 250,1,24,some (.slice none 0 0),false⟩,GX,aE,RO,RO,aE,RP,aE,sY,aE,aE,aE,⟨.slice 327,1,24,some (.slice none 0 0),false⟩,RQ,RQ,⟨.other,1,0,some (.tuple #[.int .i64 0,.int .i64 0,.slice none 0 0,.agg #[.int .i64 0,.slice none 0 0],.bool false]),false⟩,aE,RR,aE,RP,aE,aE,aE,aE,RT,RT,⟨.slice 281,1,24,some (.slice none 0 0),false⟩,RU,RU,⟨.other,1,0,some (.tuple #[.agg #[.int .i64 0,.int .i64 0,.int .i64 0,.slice none 0 0,.slice none 0 0],.bool false]),false⟩,aE,aE,aE,RR,aE,RN,aE,aE,RV,RV,RW,RW,⟨.other,1,0,some (.tuple #[.agg #[.int .i64 0,.bool false,.slice none 0 0,.slice none 0 0,.bool false],.bool false]),false⟩,aE,aE,sY,aE,⟨.other,1,0,some (.tuple #[.int .i64 0,.agg #[.int .i64 0,.int .i64 0]]),false⟩,aE,⟨.slice 206,1,24,some (.slice none 0 0),false⟩,RH,aE,aE,sY,aE,⟨.pointer 204,1,8,some (.pointer none),false⟩,⟨.map 3 22,1,8,some (.map none),false⟩,RX,RX,vA,vA,aE,aE,⟨.slice 316,1,24,some (.slice none 0 0),false⟩,RY,RY,⟨.other,1,0,some (.tuple #[.agg #[.slice none 0 0,.slice none 0 0,.int .i64 0],.bool false]),false⟩,aE,aE,sY,aE,aE,Lb,aE,aE,⟨.other,1,0,some (.tuple #[.slice none 0 0,.bool false,.int .i64 0,.bool false]),false⟩,aE,aE,aE,⟨.other,1,0,some (.tuple #[.int .i64 0,.bool false]),false⟩,aE,aE,aE,aE,aE,aE,⟨.slice 233,1,24,some (.slice none 0 0),false⟩,⟨.array 2 3,2,16,some (.agg #[.int .i64 0,.int .i64 0]),false⟩,RZ,RZ,⟨.slice 235,1,24,some (.slice none 0 0),false⟩,⟨.other,1,0,some (.tuple #[.int .i64 0,.int .i64 0]),false⟩,aE,⟨.other,1,0,some (.tuple #[.int .i64 0,.int .i64 0,.agg #[.int .i64 0,.int .i64 0]]),false⟩,aE,C9,aE,C9,aE,aE,aE,aE,aE,K5,K5,aE,aE,aE,C9,aE,aE,aE,⟨.array 256 5,256,256,some (.agg (eP 256 (.int .u8 0)).toArray),false⟩,R0,R0,⟨.array 16 260,32,32,some (.agg (eP 32 (.int .u8 0)).toArray),false⟩,aE,aE,aE,aE,K8,aE,aE,aE,aE,aE,aE,aE,⟨.array 4 3,4,32,some (.agg #[.int .i64 0,.int .i64 0,.int .i64 0,.int .i64 0]),false⟩,⟨.slice 279,1,24,some (.slice none 0 0),false⟩,sY,aE,R1,R1,R2,R2,aE,aE,aE,aE,aE,aE,⟨.int .i16,1,2,some (.int .i16 0),false⟩,⟨.int .u16,1,2,some (.int .u16 0),false⟩,C9,aE,aE,aE,aE,⟨.slice 4,1,24,some (.slice none 0 0),false⟩,aE,aE,aE,aE,aE,⟨.pointer 303,1,8,some (.pointer none),false⟩,R3,R3,aE,aE,aE,C9,aE,aE,aE,⟨.other,1,0,some (.tuple #[.string ⟨#[]⟩,.string ⟨#[]⟩,.bool false]),false⟩,aE,aE,aE,vA,vA,aE,aE,aE,aE,⟨.int .u32,1,4,some (.int .u32 0),false⟩,aE,aE,aE,aE,⟨.other,1,0,some (.tuple #[.agg #[.int .i64 0,.int .i64 0],.int .i64 0,.agg #[.int .i64 0,.int .i64 0]]),false⟩,⟨.array 3 5,3,3,some (.agg #[.int .u8 0,.int .u8 0,.int .u8 0]),false⟩,aE,aE,aE,aE,aE,⟨.other,1,0,some (.tuple #[.agg #[.int .u8 0,.slice none 0 0,.int .i64 0],.int .i64 0,.agg #[.int .i64 0,.int .i64 0]]),false⟩,⟨.pointer 336,1,8,some (.pointer none),false⟩,R4,R4,⟨.other,1,0,some (.tuple #[.slice none 0 0,.bool false,.bool false]),false⟩,aE,aE,aE,aE,aE,aE,aE,aE,⟨.other,1,0,some (.tuple #[.agg #[.int .i64 0,.slice none 0 0],.int .i64 0,.agg #[.int .i64 0,.int .i64 0]]),false⟩,aE,R5,R5,⟨.other,1,0,some (.tuple #[.agg (eP 256 (.bool false)).toArray,.bool false]),false⟩,aE,aE,⟨.pointer 349,1,8,some (.pointer none),false⟩,⟨.other,1,0,some (.tuple #[.string ⟨#[]⟩,.bool false]),false⟩,aE,aE,aE,⟨.pointer 211,1,8,some (.pointer none),false⟩,⟨.pointer 316,1,8,some (.pointer none),false⟩,aE,aE,aE,aE,aE,⟨.other,1,0,some (.tuple #[.int .i32 0,.int .i64 0]),false⟩,aE,K6,C8,C8,R6,aE,aE,aE,aE,aE,aE,aE,R7,aE,aE,aE,aE,⟨.array 24 5,24,24,some (.agg (eP 24 (.int .u8 0)).toArray),false⟩,aE,aE,⟨.other,1,0,some (.tuple #[.slice none 0 0,.string ⟨#[]⟩]),false⟩,aE,aE,aE,aE,⟨.other,1,0,some (.tuple #[.int .u32 0,.int .u32 0]),false⟩,aE,R7,aE,⟨.array 4 5,4,4,some (.agg #[.int .u8 0,.int .u8 0,.int .u8 0,.int .u8 0]),false⟩,aE,aE,aE,aE,K9,R6,aE,⟨.pointer 416,1,8,some (.pointer none),false⟩,aE,aE,aE,⟨.array 20 218,20,160,some (.agg (eP 20 (.int .u64 0)).toArray),false⟩,⟨.array 65 5,65,65,some (.agg (eP 65 (.int .u8 0)).toArray),false⟩,aE,aE,aE,⟨.other,1,0,some (.tuple #[.int .u64 0,.nilIface]),false⟩,aE,aE,R8,R8,aE,aE,aE,⟨.pointer 5,1,8,some (.pointer none),false⟩,⟨.pointer 423,1,8,some (.pointer none),false⟩,R9,R9,⟨.array 32 5,32,32,some (.agg (eP 32 (.int .u8 0)).toArray),false⟩,⟨.array 64 5,64,64,some (.agg (eP 64 (.int .u8 0)).toArray),false⟩,Sa,Sa,⟨.array 0 16,0,0,some (.agg #[]),false⟩,Sb,Sb,GW,GW,aE,K4,K4,Sc,Sc,⟨.other,1,8,some (.pointer none),false⟩]
theorem al:cg Tryz.prog lB:=akH (es:=[31,71]) av av av
theorem mixed:Tryz.prog.follows .mixedOrders=true:=av
end Go.Proofs.YtmoiobegbpkkbaaGreatDoor
