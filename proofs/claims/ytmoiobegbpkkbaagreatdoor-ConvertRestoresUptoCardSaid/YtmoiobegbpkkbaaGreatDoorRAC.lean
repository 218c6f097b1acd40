import Derived.Test.YtmoiobegbpkkbaaGreatDoorRAB
import Derived.Scope
import Derived.Laws.RangeString
import Derived.Test.YtmoiobegbpkkbaaGreatDoorChecked
import Derived.Laws.Runes
import Derived.Lib.Strings
import Derived.Lib.Slices
import Derived.Lib.Walk
import Derived.Lib.Bytealg
open Array renaming getElem?_eq_some_iff->jG
open Bool renaming true_and->sL,and_eq_true->dM,or_eq_true->rf,not_eq_true'->A7,not_eq_true->Gz,false_and->yA
open Decidable renaming byContradiction->qU,not_not->qV
open Int renaming toNat_natCast->e8
open List renaming all_eq_true->bj,contains_iff_mem->pV,mem_cons->bB,getElem?_eq_some_iff->cW,length_cons->av,take_of_length_le->bR,drop_of_length_le->pW,append_assoc->bJ,cons_append->aL,nil_append->aA,length_append->aq,take_succ_cons->A6,flatMap_cons->bz,mem_append->cq,eq_nil_of_length_eq_zero->bL,nodup_append->vU,nodup_cons->Dy,getElem_mem->cj,drop_eq_getElem_cons->j4,flatMap_append->bT,mem_singleton->cv,sizeOf_lt_of_mem->Lr,map_cons->fq,sum_cons->pR,getElem?_eq_getElem->a8
open Nat renaming eq_of_beq_eq_true->pN,le_refl->aK,succ_mul->mL,mul_le_mul_right->iD,pow_add->LI,mul_comm->mM,zero_add->dU,mul_pos->Lm,add_mul->uc,eq_of_mul_eq_mul_right->aem,pow_le_pow_right->AY
namespace Go.Proofs.YtmoiobegbpkkbaaGreatDoor
open Go Go.RowKit
set_option maxRecDepth 100000
set_option maxHeartbeats 8000000
variable{f:FuncId}{fn:Func}{c:Code}{args:Array ao}{w V W:ae}{K:ao->ae->Prop}{n i B:Nat}{P:Program}{b:Frame}{a:Act}{k:List Item}{cs:List Frame}{s:Sl}{α:Type}{T:List TD}{l xs ys:ad}
theorem aP.uX{S:Type}{C:Cx}{c:Code}{env:Env}{ds:List Deferred}{w:ae}{Q:ic}(M:S->Env)(I:S->ae->Prop)
  (h:aP C c env ds w (λe aJ ds' w'=>match e with
   | .normal=>ds'=ds/\∃s,p8 aJ (M s)/\I s w'
   | e=>Q e aJ ds' w'))
  (k:∀s w',I s w'->Q .normal (M s) ds w'):aP C c env ds w Q:=by
 refine⟨λa hs hn hd=>wpIn_mono (h.out a hs hn hd) λe a' w' ⟨h1,aJ,h2,h3⟩=>?_⟩;cases e with
 | normal =>
  simp only at h3;obtain⟨jT,s,h4,h5⟩:=h3;exact⟨h1,M s,λt v ht=>h2 t v (sT h4 t v ht),by rw[jT];exact k s w' h5⟩
 | _=>exact⟨h1,aJ,h2,h3⟩
section
variable{C:Cx}{ops:List Oper}{xs ys:au}{Rel:ae->ae->Prop}{Q:Exit->Act->ae->Prop}
theorem cS.swap{i j:Nat}{o x:Oper}(hR:∀a b c:ae,Rel a b->Rel b c->Rel a c)(hQ:∀d v ch a w,Q (.panic ch) (Act.put a d v) w->Q (.panic ch) a w)(hb:uQ C.T ops.toArray xs ys j x i o=true){K:Act->ae->Prop}{a:Act}{w:ae}
  (h:cS C ops xs ys Rel Q j x (cS C ops xs ys Rel Q i o K) a w):cS C ops xs ys Rel Q i o (cS C ops xs ys Rel Q j x K) a w:=by
 simp only[uQ,dM,rf,A7,pV]at hb;obtain⟨⟨⟨⟨hq,Jr⟩,fp⟩,x7⟩,bF⟩:=hb;obtain⟨a1,a2,a3⟩:=Oper.apart_spec Jr;have Kg:∀cs b,x.op≠.select cs b:=λcs b e=>by rw[e]at fp;cases fp
 have ho:∀(K:Act->ae->Prop) (a:Act) (w:ae),cS C ops xs ys Rel Q j x K a w↔if Region.wanted x (yielded ops.toArray a.tmps)=true then(if k8 C.T x.op=true then ∃v,(∀w1,(yJ x.op=true->(j∈ys/\Rel w w1)\/w1=w)->(Oper.semAt C.r a.eval x).run C.P w1=.ok (.value v) w1)/\K (a.put x.dst v) w
   else x.wpIn (Fr C.r) 0 C.P a w (λa1 w1=>(j∈xs->Rel w w1)/\K a1 w1) Q)else K (a.put x.dst undef) w:=λ_ _ _=>Iff.rfl
 rw[ho]at h;split at h
 ·rename_i hw;obtain⟨v,hv,h⟩:=h;have h:=cS.EF x7 a1 a2 (hQ x.dst v) h;refine cS.mono h λb w1 ⟨u,hb⟩ C0 hg=>?_;have hev:b.eval=(a.put o.dst u).eval:=by funext z;cases z<;>simp[Act.eval,hb]
  rw[ho,hb,wanted_put (λt ht=>a3 t ht),if_pos hw,if_pos hq,hev,GX Kg (λt ht=>a3 t ht)];refine⟨v,λw2 h2=>hv w2 λhr=>?_,hg⟩;rcases C0 with rfl|⟨J1,hx⟩
  ·exact h2 hr
  ·rcases bF with(hqo|hnr)|⟨hi,hj⟩
   ·simp[hqo]at J1
   ·simp[hr]at hnr
   ·rcases h2 hr with⟨_,h3⟩|rfl
    ·exact .inl ⟨hj,hR _ _ _ (hx hi) h3⟩
    ·exact .inl ⟨hj,hx hi⟩
 ·rename_i hw;have h:=cS.EF x7 a1 a2 (hQ x.dst undef) h;refine cS.mono h λb w1 ⟨u,hb⟩ C0 hg=>?_;rw[ho,hb,wanted_put (λt ht=>a3 t ht),if_neg hw];exact hg
end
theorem agV{C:Cx}(hT:bK C.P C.T){ops:List Oper}{xs ys:au}{Q:Exit->Act->ae->Prop}{K:Env->ae->Prop}{Z:List PanicEntry->ae->Prop}{ds:List Deferred}{i:Nat}{rest:au}{r:qg}{G:Act->ae->Prop}
  (hZ:∀(a:Act) w ch,a.tmps.size=C.n->a.defers=ds->Z ch w->Q (.panic ch) a w) (hr:∀env (a:Act) w,Sat env a.tmps->a.tmps.size=C.n->a.defers=ds->r env w K Z->G a w) {env:Env} {a:Act} {w:ae} (hs:Sat env a.tmps) (hn:a.tmps.size=C.n) (hd:a.defers=ds)
  (h:AG C ops xs i rest r env w K Z):∃o,ops[i]?=some o/\cS C ops xs ys Ext Q i o G a w:=by
 unfold AG at h;obtain⟨o,ho,h⟩:=F1 h;refine⟨o,ho,?_⟩;simp only[cS];rcases Aa h hs with⟨hw,aJ,hs',h'⟩|⟨hw,aJ,hs',h'⟩
 ·rw[if_pos hw];cases hq:k8 C.T o.op with
  | true =>
   rw[if_pos rfl];obtain⟨v,h1,h2⟩:=Ht hT hs' hq h';refine⟨v,λw1 hr=>h1 w1 λh=>(hr h).elim (·.2) (λe=>e▸Ext.refl _),?_⟩;obtain⟨dO,h3,h4,h5,h6⟩:=lR (EO h2).2 hs' hn;exact hr _ _ _ h3 h4 (h5.trans hd) h6
  | false =>
   rw[if_neg ai];refine zb hT hs' h' (λv w' hk=>?_) (λch w' hz=>hZ a w' ch hn hd hz);obtain⟨h1,h2⟩:=EO hk;refine⟨λhi=>h1 (ua.2 hi),?_⟩;obtain⟨dO,h3,h4,h5,h6⟩:=lR h2 hs' hn;exact hr _ _ _ h3 h4 (h5.trans hd) h6
 ·rw[if_neg (by simp[hw])];obtain⟨dO,h3,h4,h5,h6⟩:=lR h' hs' hn;exact hr _ _ _ h3 h4 (h5.trans hd) h6
def tr(j:Nat):au->au
 | []=>[]
 | i::r=>match Nat.beq i j with
  | true=>r
  | false=>i::tr j r
theorem OY{j:Nat}{A B:au}(h:j∉A):tr j (A++j::B)=A++B:=by
 induction A with
 | nil=>simp[tr]
 | cons x A ih =>
  have hx:Nat.beq x j=false:=by
   cases e:Nat.beq x j with
   | false=>rfl
   | true=>exact absurd (by rw[pN e];simp) h
  simp only[aL,tr,hx];rw[ih (λhc=>h (by simp[hc]))]
abbrev iI:=List (Nat×au)
def EY(R:au):au->Bool
 | []=>true
 | x::r=>match nv x R with
  | true=>false
  | false=>EY R r
theorem PU{R an:au}(h:∀x∈an,x∉R):EY R an=true:=by
 induction an with
 | nil=>rfl
 | cons x r ih =>
  have:nv x R=false:=by
   cases e:nv x R with
   | false=>rfl
   | true=>exact absurd (ua.1 e) (h x ai)
  simp only[EY,this];exact ih λy hy=>h y (by simp[hy])
def tj(R:au)(j:Nat)(an:au):Bool:=match nv j R with
 | true=>EY R an
 | false=>false
def El(R:au):iI->Bool
 | []=>false
 | (j,an)::r=>match tj R j an with
  | true=>true
  | false=>El R r
def np(i:Nat):iI->Bool
 | []=>false
 | (j,_)::r=>match Nat.beq i j with
  | true=>true
  | false=>np i r
theorem RD{i:Nat}{E:iI}:np i E=true↔∃an,(i,an)∈E:=by
 induction E with
 | nil=>simp[np]
 | cons p r ih =>
  obtain⟨j,an⟩:=p;simp only[np];cases e:Nat.beq i j with
  | true =>
   have:=pN e;subst this;simp only[true_iff];exact⟨an,ai⟩
  | false =>
   have hne:=Nat.ne_of_beq_eq_false e;simp only;rw[ih];constructor
   ·rintro⟨a,ha⟩;exact⟨a,by simp[ha]⟩
   ·rintro⟨a,ha⟩;rcases bB.1 ha with h|h
    ·exact absurd (Prod.mk.inj h).1 hne
    ·exact⟨a,h⟩
def nX(R:au)(f:Nat->Prop):iI->Prop
 | []=>True
 | (j,an)::r=>match tj R j an with
  | true=>(match El R r with
   | true=>f j/\nX R f r
   | false=>f j)
  | false=>nX R f r
theorem NS{R:au}{f:Nat->Prop}{E:iI}(h:nX R f E):∀j an,(j,an)∈E->tj R j an=true->f j:=by
 induction E with
 | nil=>intro j an hm;simp at hm
 | cons p r ih =>
  obtain⟨i,bn⟩:=p;intro j an hm hc;simp only[nX]at h;have Xt:∀(E:iI),(j,an)∈E->El R E=true:=by
   intro E;induction E with
   | nil=>intro h;simp at h
   | cons q E ihE =>
    obtain⟨k,cn⟩:=q;intro hq;simp only[El];cases hk:tj R k cn with
    | true=>rfl
    | false =>
     rcases bB.1 hq with e|hq
     ·cases e;rw[hc]at hk;cases hk
     ·exact ihE hq
  rcases bB.1 hm with e|hm
  ·cases e;rw[hc]at h;simp only at h;split at h
   ·exact h.1
   ·exact h
  ·have ha:=Xt r hm;cases hi:tj R i bn with
   | true=>rw[hi,ha]at h;exact ih h.2 j an hm hc
   | false=>rw[hi]at h;exact ih h j an hm hc
section
variable{C:Cx}{ops:List Oper}{xs ys:au}{Rel:ae->ae->Prop}{Q:Exit->Act->ae->Prop}
variable(C ops xs ys Rel Q)in
def gQ(E:iI):Nat->au->Act->ae->Prop
 | 0,_,a,w=>Q .normal a w
 | _+1,[],a,w=>Q .normal a w
 | n+1,i::r,a,w=>match np i E with
  | true=>nX (i::r) (λj=>∀o,ops[j]?=some o->cS C ops xs ys Rel Q j o (gQ E n (tr j (i::r))) a w) E
  | false=>∀o,ops[i]?=some o->cS C ops xs ys Rel Q i o (gQ E n r) a w
def ub(T:List TD)(ops:List Oper)(xs ys:au)(E:iI):au->Bool
 | []=>true
 | x::r=>(match ops[x]? with
  | some ox=>r.all λi=>(mc ops ops.length i).contains x||(np x E&&np i E)||(!np x E&&(match ops[i]? with
   | some oi=>uQ T ops.toArray xs ys x ox i oi
   | none=>false))
  | none=>false)&&ub T ops xs ys E r
theorem adM{E:iI}{A B:au}{i:Nat}:ub C.T ops xs ys E (A++i::B)=true->ub C.T ops xs ys E (A++B)=true:=by
 induction A with
 | nil=>intro h;simp only[aA,ub,dM]at h |-;exact h.2
 | cons x A ih =>
  intro h;simp only[aL,ub,dM]at h |-;refine⟨?_,ih h.2⟩;have h1:=h.1;cases ho:ops[x]? with
  | none=>simp[ho]at h1
  | some o =>
   simp only[ho]at h1;refine bj.2 λj hj=>bj.1 h1 j ?_;simp only[cq,bB]at hj |-;rcases hj with hj|hj
   ·exact .inl hj
   ·exact .inr (.inr hj)
theorem gQ.move{E:iI}{i:Nat}{o:Oper}{B:au}(ho:ops[i]?=some o)(hR:∀a b c:ae,Rel a b->Rel b c->Rel a c)(hQ:∀d v ch a w,Q (.panic ch) (Act.put a d v) w->Q (.panic ch) a w)
  (hE:∀an,(i,an)∈E->∀x∈an,x∈mc ops ops.length i):∀ {A:au} {n:Nat} {a:Act} {w:ae},(A++i::B).length=n+1->(A++i::B).Nodup->(∀x∈A++i::B,x∉mc ops ops.length i) ->
  ub C.T ops xs ys E (A++i::B)=true->gQ C ops xs ys Rel Q E (n+1) (A++i::B) a w->cS C ops xs ys Rel Q i o (gQ C ops xs ys Rel Q E n (A++B)) a w
 | [],n,a,w,hl,ij,hna,hp,h=>by
  simp only[aA]at h hna |-;simp only[gQ]at h;cases he:np i E with
  | false=>rw[he]at h;exact h o ho
  | true =>
   rw[he]at h;obtain⟨an,Cv⟩:=RD.1 he;have hc:tj (i::B) i an=true:=by
    unfold tj;rw[ua.2 ai];exact PU λx hx hm=>hna x hm (hE an Cv x hx)
   have:=NS h i an Cv hc o ho;have e:tr i (i::B)=B:=OY (A:=[]) ai;rw[e]at this;exact this
 | x::A,n,a,w,hl,ij,hna,hp,h=>by
  have tO:=hp;simp only[aL,ub,dM]at hp;cases he:np x E with
  | false =>
   obtain⟨m,rfl⟩:∃m,n=m+1:=⟨n-1,by simp at hl;omega⟩
   have h1:=hp.1;cases hx:ops[x]? with
   | none=>rw[hx]at h1;cases h1
   | some ox =>
    rw[hx]at h1;have h1:=bj.1 h1 i ai;rw[he,ho]at h1;simp only[yA,Bool.or_false,Bool.not_false,sL,rf,pV]at h1;have hb:=h1.resolve_left (hna x ai);simp only[aL,gQ,he]at h;have h2:=cS.swap hR hQ hb (cS.mono (h ox hx) λa1 w1 _ _ hg=>gQ.move (B:=B) ho hR hQ hE (A:=A) (by simp at hl |-;omega) (Dy.1 ij).2 (λy hy=>hna y (by simp at hy |-;exact .inr hy)) hp.2 hg);refine cS.mono h2 λa1 w1 _ _ hg=>?_;simp only[aL,gQ,he];intro o' lI;rw[hx]at lI;cases lI;exact hg
  | true =>
   simp only[aL,gQ,he]at h;have h1:=hp.1;cases hx:ops[x]? with
   | none=>rw[hx]at h1;cases h1
   | some ox =>
    rw[hx]at h1;have h1:=bj.1 h1 i ai;rw[he,ho]at h1;simp only[Bool.not_true,yA,Bool.or_false,sL,rf,pV]at h1;have hie:=h1.resolve_left (hna x ai);obtain⟨an,Cv⟩:=RD.1 hie;have hc:tj (x::(A++i::B)) i an=true:=by
     unfold tj;rw[ua.2 ai];exact PU λy hy hm=>hna y (by simpa using hm) (hE an Cv y hy)
    have:=NS h i an Cv hc o ho;have CN:i∉x::A:=by
     intro hc;have:=vU.1 (show((x::A)++i::B).Nodup from ij);exact this.2.2 i hc i ai rfl
    have e:tr i (x::(A++i::B))=x::A++B:=OY (A:=x::A) CN;rw[e]at this;exact this
theorem gQ.any{E:iI}(Cq:∀a b c:ae,Rel a b->Rel b c->Rel a c)(hQ:∀d v ch a w,Q (.panic ch) (Act.put a d v) w->Q (.panic ch) a w)(hE:∀i an,(i,an)∈E->∀x∈an,x∈mc ops ops.length i):∀(fuel:Nat) (R:au) (listed:Array Bool) (a:Act) (w:ae),R.length<=fuel->R.Nodup->listed.size=ops.length ->
  (∀i,i<ops.length->(listed.getD i true=false↔i∈R))->(∀i∈R,i<ops.length)->(∀i o,ops[i]?=some o->listed.getD i true=true->∀j∈sH o,listed.getD j false=true) ->
  qb ops R=true->ub C.T ops xs ys E R=true->gQ C ops xs ys Rel Q E R.length R a w->wpAnyIn (Fr C.r) 0 C.P .any ops.toArray Q fuel listed a w:=by
 intro fuel;induction fuel with
 | zero =>
  intro R listed a w hl ij hsz hR hlt hcl ht hp h;have:R=[]:=bL aa;subst this;refine⟨?_,h⟩;rw[List.eq_nil_iff_forall_not_mem];intro i hi;obtain⟨o,ho,h1,_⟩:=A9.1 hi;exact absurd ((hR i (cW.1 ho).1).1 h1) ai
 | succ fuel ih =>
  intro R listed a w hl ij hsz hR hlt hcl ht hp h;have tL:∀j,j<ops.length->listed.getD j false=listed.getD j true:=by
   intro j hj;have:j<listed.size:=aa;simp[Array.getD,this]
  have CH:∀j,listed.getD j false=true->listed.getD j true=true:=by
   intro j hj;by_cases hlt:j<listed.size
   ·simpa [Array.getD,hlt]using hj
   ·simp[Array.getD,hlt]at hj
  refine⟨λJZ=>?_,λi hi=>?_⟩
  ·cases R with
   | nil=>exact h
   | cons x R =>
    exfalso;simp only[qb,dM]at ht;have hx:x∈Region.ready .any ops.toArray listed:=by
     have h1:=ht.1;split at h1
     ·rename_i o ho;refine A9.2 ⟨o,ho,(hR x (hlt x ai)).2 ai,λj hj=>?_⟩;have:=bj.1 h1 j hj;simp only[dM,decide_eq_true_eq,A7,<-Gz,pV]at this;rw[tL j this.1];cases hv:listed.getD j true with
      | true=>rfl
      | false=>exact absurd ((hR j this.1).1 hv) this.2
     ·cases h1
    rw[JZ]at hx;simp at hx
  ·obtain⟨o,ho,h1,h2⟩:=A9.1 hi;have JK:=(cW.1 ho).1;have JJ:=(hR i JK).1 h1;obtain⟨A,B,rfl⟩:=List.append_of_mem JJ;have hna:∀x∈A++i::B,x∉mc ops ops.length i:=by
    intro x hx hc;have hxl:=NC hcl CH ops.length i o ho h2 x hc;have Ko:=hlt x hx;have:=(hR x Ko).2 hx;rw[CH x hxl]at this;cases this
   have hlen:(A++i::B).length=(A++B).length+1:=by simp;omega
   rw[hlen]at h;have hm:=gQ.move ho Cq hQ (hE i) hlen ij hna hp h;refine wpOpIn_mono (λa1 w1 hg=>?_) (cS.sound ho hm);have CN:i∉A++B:=by
    have:=ij;rw[vU]at this;intro hc;rcases cq.1 hc with hc|hc
    ·exact this.2.2 i hc i ai rfl
    ·exact(Dy.1 this.2.1).1 hc
   have tS:∀j d,(listed.setIfInBounds i true).getD j d=if i=j then true else listed.getD j d:=by
    intro j d;by_cases hj:j<listed.size
    ·by_cases e:i=j
     ·subst e;simp[Array.getD,hj]
     ·simp[Array.getD,hj,e]
    ·by_cases e:i=j
     ·subst e;omega
     ·simp[Array.getD,hj,e]
   refine ih (A++B) _ a1 w1 (by simp at hl |-;omega) ?_ (by simpa using hsz) ?_ ?_ ?_ (Vl ht) (adM hp) hg
   ·have:=ij;rw[vU]at this |-;refine⟨this.1,(Dy.1 this.2.1).2,λx hx y hy=>this.2.2 x hx y (by simp[hy])⟩
   ·intro j hj;rw[tS];by_cases e:i=j
    ·subst e;simp only[if_true];exact⟨λh=>(by cases h),λh=>absurd h CN⟩
    ·rw[if_neg e,hR j hj];simp only[cq,bB];constructor
     ·rintro(h|h|h)
      ·exact .inl h
      ·exact absurd h.symm e
      ·exact .inr h
     ·rintro(h|h)
      ·exact .inl h
      ·exact .inr (.inr h)
   ·intro j hj;refine hlt j ?_;simp only[cq,bB]at hj |-;rcases hj with hj|hj
    ·exact .inl hj
    ·exact .inr (.inr hj)
   ·intro j oj qG xO k hk;rw[tS]at xO |-;by_cases e:i=j
    ·subst e;rw[ho]at qG;cases qG;have:=h2 k hk;split
     ·rfl
     ·exact this
    ·rw[if_neg e]at xO;have:=hcl j oj qG xO k hk;split
     ·rfl
     ·exact this
end
abbrev tc:=au->qg
def SH:tc:=λ_=>F2
def KY(C:Cx)(ops:List Oper)(xs:au)(E:iI)(_:Nat)(_:au)(r:tc):tc:=λR env w K Z=>match R with
 | []=>K env w
 | i::rest=>match np i E with
  | true=>nX (i::rest) (λj=>AG C ops xs j [] (r (tr j (i::rest))) env w K Z) E
  | false=>AG C ops xs i [] (r rest) env w K Z
noncomputable def Hp(C:Cx)(ops:List Oper)(xs:au)(E:iI)(l:au):tc:=List.rec (motive:=λ_=>tc) SH (KY C ops xs E) l
theorem Wg{C:Cx}(hT:bK C.P C.T){ops:List Oper}{xs ys:au}{E:iI}{Q:Exit->Act->ae->Prop}{K:Env->ae->Prop}{Z:List PanicEntry->ae->Prop}{ds:List Deferred}
  (hQ:∀env (a:Act) w,Sat env a.tmps->a.tmps.size=C.n->a.defers=ds->K env w->Q .normal a w) (hZ:∀(a:Act) w ch,a.tmps.size=C.n->a.defers=ds->Z ch w->Q (.panic ch) a w) :
  ∀ {l R:au} {env:Env} {a:Act} {w:ae},Sat env a.tmps->a.tmps.size=C.n->a.defers=ds->Hp C ops xs E l R env w K Z->gQ C ops xs ys Ext Q E l.length R a w
 | [],R,env,a,w,hs,hn,hd,h=>hQ env a w hs hn hd h
 | f::l,[],env,a,w,hs,hn,hd,h=>hQ env a w hs hn hd h
 | f::l,i::rest,env,a,w,hs,hn,hd,h=>by
  have h:KY C ops xs E f l (Hp C ops xs E l) (i::rest) env w K Z:=h;have one:∀j R',AG C ops xs j [] (Hp C ops xs E l R') env w K Z->∀o,ops[j]?=some o->cS C ops xs ys Ext Q j o (gQ C ops xs ys Ext Q E l.length R') a w:=by
   intro j R' hj o ho;obtain⟨o',lI,h'⟩:=agV (ys:=ys) (G:=gQ C ops xs ys Ext Q E l.length R') hT hZ (λenv a w h1 h2 h3 h4=>Wg hT hQ hZ h1 h2 h3 h4) hs hn hd hj;rw[ho]at lI;cases lI;exact h'
  unfold KY at h;simp only[av,gQ];cases he:np i E with
  | false =>
   simp only[he]at h;exact one i rest h
  | true =>
   simp only[he]at h |-;have mono:∀(E':iI) (f g:Nat->Prop),(∀j,f j->g j)->nX (i::rest) f E'->nX (i::rest) g E':=by
    intro E' f g CF;induction E' with
    | nil=>exact λh=>h
    | cons p E' ih =>
     obtain⟨j,an⟩:=p;simp only[nX];split
     ·split
      ·exact λh=>⟨CF j h.1,ih h.2⟩
      ·exact CF j
     ·exact ih
   exact mono E _ _ (λj hj=>one j _ hj) h
def F5(T:List TD)(ops:List Oper)(xs ys π:au)(E:iI):Bool :=
 qb ops π&&ub T ops xs ys E π&&((List.range ops.length).all λi=>π.contains i)&&decide (π.length=ops.length)&&decide π.Nodup&&(π.all λi=>decide (i<ops.length))&&E.all λp=>p.2.all λx=>(mc ops ops.length p.1).contains x
theorem O7{C:Cx}(hT:bK C.P C.T)(hm:C.P.follows .mixedOrders=true){id:Nat}{ops:Array Oper}{env:Env}{ds:List Deferred}{w:ae}{Q:ic}(xs π:au)(E:iI)
  (hok:F5 C.T ops.toList xs π π E=true)
  (h:∀w1,Bt w w1->Hp C ops.toList xs E π π env w1 (λaJ w'=>nG aJ C.live λe'=>Q .normal e' ds w') (λch w'=>Q (.panic ch) [] ds w')) :
  aP C (.region id ops true) env ds w Q:=by
 refine⟨λa hs hn hd=>?_⟩;simp only[F5,dM,decide_eq_true_eq]at hok;obtain⟨⟨⟨⟨⟨⟨ht,hp⟩,hall⟩,hlen⟩,xR⟩,xP⟩,hE⟩:=hok;have hmem:∀i,i<ops.toList.length->i∈π:=λi hi=>by simpa using bj.1 hall i (by simpa using hi)
 have key:=h { w with drawn:=w.drawn+1 } ⟨rfl,rfl,rfl,rfl,aK _,λ_ _=>rfl⟩;let Q':Exit->Act->ae->Prop:=λe a' w'=>a'.tmps.size=C.n/\match e with
  | .panic ch=>Q (.panic ch) [] a'.defers w'
  | e=>∃aJ,Sat aJ a'.tmps/\Q e aJ a'.defers w'
 refine wpIn_mono (Q:=Q') ?_ (λe a' w' hq=>?_)
 ·refine wpIn_region_any hm ?_;have hg:gQ C ops.toList xs π Ext Q' E π.length π a { w with drawn:=w.drawn+1 }:=by
   refine Wg hT (ds:=ds) (λaJ a' w' h1 h2 h3 h4=>?_) (λa' w' ch h1 h2 h3=>?_) hs hn hd key
   ·obtain⟨e',h5,h6⟩:=sI h4;exact⟨h2,e',λt v ht=>h1 t v (h5 t v ht),h3▸h6⟩
   ·exact⟨h1,h2▸h3⟩
  have hlt:∀i∈π,i<ops.toList.length:=λi hi=>by simpa using bj.1 xP i hi
  have:=gQ.any (C:=C) (ops:=ops.toList) (xs:=xs) (ys:=π) (Rel:=Ext) (Q:=Q') (λ_ _ _ h k=>Ext.trans h k) (λd v ch a w hq=>by
   obtain⟨h1,h2⟩:=hq;refine⟨?_,?_⟩
   ·cases d<;>simpa [Act.put]using h1
   ·cases d<;>exact h2) (λi an hi x hx=>by simpa using bj.1 (bj.1 hE _ hi) x hx) ops.size π (Array.replicate ops.size false) a { w with drawn:=w.drawn+1 } (by simp[hlen]) xR ai (λi hi=>?_) hlt (λi o ho hl=>?_) ht hp hg
  ·simpa using this
  ·have:i<ops.size:=by simpa using hi
   simp[Array.getD,this,hmem i hi]
  ·have:i<ops.size:=by simpa using(cW.1 ho).1
   simp[Array.getD,this]at hl
 ·obtain⟨h1,h2⟩:=hq;cases e with
  | panic ch=>exact⟨h1,[],Sat.nil _,h2⟩
  | _=>exact⟨h1,h2⟩
section
variable{C:Cx}{env:Env}{ds:List Deferred}{w:ae}{Q:ic}
theorem aP.seq{x y:Code}(h:aP C x env ds w λe aJ ds' w'=>match e with
  | .normal=>aP C y aJ ds' w' Q
  | e=>Q e aJ ds' w'):aP C (.seq x y) env ds w Q:=by
 refine⟨λa hs hn hd=>wpIn_seq (wpIn_mono (h.out a hs hn hd) λe a' w' ⟨h1,aJ,h2,h3⟩=>?_)⟩;cases e with
 | normal=>exact h3.out a' h2 h1 rfl
 | _=>exact⟨h1,aJ,h2,h3⟩
theorem aP.dH(hT:bK C.P C.T){x y:Code}(h:ia C x env ds w λe aJ ds' w'=>match e with
  | .normal=>aP C y aJ ds' w' Q
  | e=>Q e aJ ds' w'):aP C (.seq x y) env ds w Q:=aP.seq (sY hT h)
theorem aP.oH{S:Type}(hT:bK C.P C.T)(M:S->Env)(I:S->ae->Prop){x y:Code}(h:ia C x env ds w λe aJ ds' w'=>match e with
  | .normal=>ds'=ds/\∃s,p8 aJ (M s)/\I s w'
  | e=>Q e aJ ds' w')(k:∀s w',I s w'->aP C y (M s) ds w' Q):aP C (.seq x y) env ds w Q :=
 aP.seq (aP.uX M I (aP.mono (sY hT h) λe env ds w h=>by cases e<;>exact h) k)
theorem aP.go(hT:bK C.P C.T){x:Code}(h:ia C x env ds w Q):aP C x env ds w Q:=sY hT h
end
theorem qo{P:Program}{T:List TD}(hT:bK P T){f:FuncId}{fn:Func}{c:Code}{args:aD}{w:ae}{K:ao->ae->Prop}{Z:List PanicEntry->ae->Prop}
  (hf:P.funcs[f]?=some fn) (hb:fn.body=some c) (hname:(fn.name == "runtime.NumGoroutine")=false) (n:Nat) (hn:fn.ntmps=n) (ha:args.length<=n) (live:au)
  (h:aP ⟨P,T,n,live,none⟩ c (me 0 args) [] w (IV ⟨P,T,n,live,none⟩ fn.results.toList K Z)):cw P f args.toArray w K Z:=by
 refine⟨.inl ⟨xe hf (by simp[hb]) hname,(BP (r:=none) (n:=0)).1 ?_⟩⟩;refine callsIn_of_wp_marks hf hb trivial ?_;have hs:Sat (me 0 args) (args.toArray++Array.replicate (fn.ntmps-args.toArray.size) undef):=Eo;refine wpIn_mono (h.out { tmps:=args.toArray++Array.replicate (fn.ntmps-args.toArray.size) undef,defers:=[] } hs (by simp;omega) rfl) ?_;rintro e a w'⟨h1,aJ,h2,h3⟩;have fin:∀ {ds w},(tZ ds w λw'=>sP ⟨P,T,n,live,none⟩ fn.results.toList aJ w' λv=>K v w')->LeavesInM (Fr none) 0 P fn a.tmps (λe w'=>match e with|.returned v=>K v w'|.panicked ch=>Z ch w'|.outgrown=>False) ds .returning w:=by
  intro ds w h;refine Dh ai h λw' h=>?_;obtain⟨v,hr,hk⟩:=GM (C:=⟨P,T,n,live,none⟩) hT h2 h;exact⟨v,hr,hk⟩
 cases e with
 | normal=>exact fin h3
 | ret=>exact fin h3
 | panic ch=>exact Dh ai h3 λw' h=>h
 | exit id=>exact h3.elim
 | goto l=>exact h3.elim
 | outgrown=>exact h3.elim
abbrev aF:TD:=⟨.func,1,8,some (.nilFunc),false⟩
abbrev rQ:TD:=⟨.other,1,0,some (.tuple #[.slice none 0 0,.bool false]),false⟩
abbrev uY:TD:=⟨.struct [(0,3),(1,22)],2,32,some (.agg #[.int .i64 0,.slice none 0 0]),false⟩
abbrev BZ:TD:=⟨.iface,1,16,some (.nilIface),false⟩
abbrev B0:TD:=⟨.other,1,0,some (.tuple #[.slice none 0 0,.int .i64 0,.agg #[.int .i64 0,.int .i64 0]]),false⟩
abbrev EH:TD:=⟨.int .u8,1,1,some (.int .u8 0),false⟩
abbrev EI:TD:=⟨.other,1,0,some (.tuple #[.slice none 0 0,.slice none 0 0]),false⟩
abbrev IA:TD:=⟨.int .i64,1,8,some (.int .i64 0),false⟩
abbrev IB:TD:=⟨.string,1,16,some (.string ⟨#[]⟩),false⟩
abbrev IC:TD:=⟨.int .u64,1,8,some (.int .u64 0),false⟩
abbrev Iu:TD:=⟨.int .i32,1,4,some (.int .i32 0),false⟩
abbrev Iv:TD:=⟨.struct [(0,3),(1,3)],2,16,some (.agg #[.int .i64 0,.int .i64 0]),false⟩
abbrev Iw:TD:=⟨.struct [],0,0,some (.agg #[]),false⟩
abbrev Iy:TD:=⟨.other,1,0,some (.tuple #[.slice none 0 0,.int .i64 0]),false⟩
abbrev Iz:TD:=⟨.other,1,0,some (.tuple #[.slice none 0 0,.slice none 0 0,.bool false]),false⟩
abbrev Oi:TD:=⟨.struct [(0,2),(1,3),(2,4),(3,6)],4,24,some (.agg #[.int .i64 0,.int .i64 0,.bool false,.int .u8 0]),false⟩
abbrev Oj:TD:=⟨.struct [(0,9),(1,12)],2,24,some (.agg #[.string ⟨#[]⟩,.int .u64 0]),false⟩
abbrev Ok:TD:=⟨.struct [(0,17)],1,8,some (.agg #[.pointer none]),false⟩
abbrev Ol:TD:=⟨.struct [(0,3),(1,3),(2,22),(3,24),(4,25)],5,88,some (.agg #[.int .i64 0,.int .i64 0,.slice none 0 0,.slice none 0 0,.slice none 0 0]),false⟩
abbrev Om:TD:=⟨.struct [(0,3),(1,27),(6,22)],7,120,some (.agg #[.int .i64 0,.int .i64 0,.int .i64 0,.slice none 0 0,.slice none 0 0,.slice none 0 0,.slice none 0 0]),false⟩
abbrev On:TD:=⟨.other,1,0,some (.tuple #[.slice none 0 0,.agg #[.int .i64 0,.int .i64 0]]),false⟩
abbrev Oo:TD:=⟨.other,1,0,some (.tuple #[.agg #[.int .i64 0,.int .i64 0,.slice none 0 0,.slice none 0 0,.slice none 0 0],.slice none 0 0,.bool false]),false⟩
abbrev Oq:TD:=⟨.struct [(0,56),(1,63),(2,68)],3,24,some (.agg #[.nilFunc,.nilFunc,.nilFunc]),false⟩
abbrev Ot:TD:=⟨.struct [(0,3),(1,3),(2,3),(3,22)],4,48,some (.agg #[.int .i64 0,.int .i64 0,.int .i64 0,.slice none 0 0]),false⟩
abbrev Ou:TD:=⟨.struct [(0,106),(1,50),(2,4)],3,56,some (.agg #[.slice none 0 0,.slice none 0 0,.bool false]),false⟩
abbrev Ov:TD:=⟨.other,1,0,some (.tuple #[.int .i64 0,.slice none 0 0,.bool false]),false⟩
abbrev Ow:TD:=⟨.struct [(0,3),(1,146)],2,32,some (.agg #[.int .i64 0,.slice none 0 0]),false⟩
abbrev Ox:TD:=⟨.other,1,0,some (.tuple #[.agg #[.int .i64 0,.slice none 0 0],.bool false]),false⟩
abbrev Oy:TD:=⟨.struct [(0,3),(1,158)],2,32,some (.agg #[.int .i64 0,.slice none 0 0]),false⟩
abbrev Oz:TD:=⟨.other,1,0,some (.tuple #[.int .i64 0,.int .i64 0,.slice none 0 0,.bool false]),false⟩
abbrev OA:TD:=⟨.struct [(0,3),(1,3),(2,3)],3,24,some (.agg #[.int .i64 0,.int .i64 0,.int .i64 0]),false⟩
abbrev OB:TD:=⟨.struct [(0,171),(3,50),(4,172)],5,72,some (.agg #[.int .i64 0,.int .i64 0,.int .i64 0,.slice none 0 0,.slice none 0 0]),false⟩
abbrev OC:TD:=⟨.struct [(0,3),(1,4)],2,16,some (.agg #[.int .i64 0,.bool false]),false⟩
abbrev OD:TD:=⟨.struct [(0,185),(2,106),(3,50),(4,4)],5,72,some (.agg #[.int .i64 0,.bool false,.slice none 0 0,.slice none 0 0,.bool false]),false⟩
abbrev OE:TD:=⟨.struct [(0,22),(1,3),(2,9),(3,202)],4,56,some (.agg #[.slice none 0 0,.int .i64 0,.string ⟨#[]⟩,.map none]),false⟩
abbrev OG:TD:=⟨.struct [(0,209),(1,50),(2,3)],3,56,some (.agg #[.slice none 0 0,.slice none 0 0,.int .i64 0]),false⟩
abbrev OH:TD:=⟨.struct [(0,27),(5,50)],6,112,some (.agg #[.int .i64 0,.int .i64 0,.slice none 0 0,.slice none 0 0,.slice none 0 0,.slice none 0 0]),false⟩
abbrev OI:TD:=⟨.struct [(0,5),(1,5)],2,2,some (.agg #[.int .u8 0,.int .u8 0]),false⟩
abbrev OJ:TD:=⟨.struct [(0,5),(1,22)],2,32,some (.agg #[.int .u8 0,.slice none 0 0]),false⟩
abbrev OK:TD:=⟨.struct [(0,279),(2,3)],3,40,some (.agg #[.int .u8 0,.slice none 0 0,.int .i64 0]),false⟩
abbrev OL:TD:=⟨.struct [(0,22),(1,3),(2,9),(3,195)],4,72,some (.agg #[.slice none 0 0,.int .i64 0,.string ⟨#[]⟩,.slice none 0 0]),false⟩
abbrev OM:TD:=⟨.struct [(0,185),(2,22)],3,40,some (.agg #[.int .i64 0,.bool false,.slice none 0 0]),false⟩
abbrev ON:TD:=⟨.array 256 4,256,256,some (.agg (List.replicate 256 (.bool false)).toArray),false⟩
abbrev OO:TD:=⟨.other,1,0,some (.tuple #[.int .i64 0,.nilIface]),false⟩
abbrev OP:TD:=⟨.other,1,0,some (.tuple #[.int .u64 0,.int .u64 0]),false⟩
abbrev OQ:TD:=⟨.struct [(0,9),(1,9),(2,369)],3,48,some (.agg #[.string ⟨#[]⟩,.string ⟨#[]⟩,.nilIface]),false⟩
abbrev OR:TD:=⟨.struct [(0,9)],1,16,some (.agg #[.string ⟨#[]⟩]),false⟩
abbrev OS:TD:=⟨.struct [(0,17),(1,17),(2,17),(3,9)],4,40,some (.agg #[.pointer none,.pointer none,.pointer none,.string ⟨#[]⟩]),false⟩
abbrev OT:TD:=⟨.blank,0,0,some (.agg #[]),false⟩
abbrev OU:TD:=⟨.struct [(0,12),(1,12),(2,321),(3,431),(4,5),(5,5),(6,432),(7,433),(8,420),(9,434),(10,435)],11,48,some (.agg #[.int .u64 0,.int .u64 0,.int .u32 0,.int .u8 0,.int .u8 0,.int .u8 0,.int .u8 0,.nilFunc,.pointer none,.int .i32 0,.int .i32 0]),false⟩
def sU:List TD:=[⟨.other,1,0,some (.tuple #[]),false⟩,aF,IA,IA,⟨.bool,1,1,some (.bool false),false⟩,EH,EH,Oi,Oi,IB,IB,IB,IC,Oj,Oj,⟨.pointer 427,1,8,some (.pointer none),false⟩,⟨.pointer 430,1,8,some (.pointer none),false⟩,⟨.pointer 437,1,8,some (.pointer none),false⟩,Ok,Ok,BZ,Iu,⟨.slice 5,1,24,some (.slice none 0 0),false⟩,aF,⟨.slice 9,1,24,some (.slice none 0 0),false⟩,⟨.slice 27,1,24,some (.slice none 0 0),false⟩,Ol,Ol,Om,Om,Iv,⟨.struct [(0,3),(1,3)],2,16,some (.agg #[.int .i64 0,.int .i64 0]),true⟩,⟨.other,1,0,some (.tuple #[.agg #[.int .i64 0,.int .i64 0,.int .i64 0,.slice none 0 0,.slice none 0 0,.slice none 0 0,.slice none 0 0],.agg #[.int .i64 0,.int .i64 0]]),false⟩,aF,aF,aF,aF,aF,On,aF,aF,aF,⟨.slice 71,1,24,some (.slice none 0 0),false⟩,On,aF,aF,aF,rQ,aF,aF,⟨.slice 3,1,24,some (.slice none 0 0),false⟩,BZ,BZ,⟨.other,1,0,some (.tuple #[.nilIface,.bool false]),false⟩,aF,⟨.other,1,0,some (.tuple #[.agg #[.int .i64 0,.int .i64 0,.slice none 0 0,.slice none 0 0,.slice none 0 0],.slice none 0 0,.agg #[.int .i64 0,.int .i64 0]]),false⟩,aF,Iw,Iw,aF,Oo,aF,aF,aF,aF,aF,rQ,aF,aF,aF,⟨.struct [(0,9),(1,3)],2,24,some (.agg #[.string ⟨#[]⟩,.int .i64 0]),false⟩,⟨.struct [(0,9),(1,3)],2,24,some (.agg #[.string ⟨#[]⟩,.int .i64 0]),true⟩,Oq,Oq,⟨.array 7 52,7,112,some (.agg #[.nilIface,.nilIface,.nilIface,.nilIface,.nilIface,.nilIface,.nilIface]),false⟩,aF,⟨.slice 80,1,24,some (.slice none 0 0),false⟩,rQ,aF,uY,uY,aF,aF,aF,aF,aF,Ot,Ot,Iy,aF,aF,aF,aF,aF,aF,aF,⟨.slice 22,1,24,some (.slice none 0 0),false⟩,rQ,aF,⟨.slice 101,1,24,some (.slice none 0 0),false⟩,uY,uY,aF,aF,aF,aF,⟨.slice 96,1,24,some (.slice none 0 0),false⟩,Ou,Ou,⟨.other,1,0,some (.tuple #[.agg #[.slice none 0 0,.slice none 0 0,.bool false],.bool false]),false⟩,aF,aF,aF,Iz,aF,⟨.other,1,0,some (.tuple #[.agg #[.int .i64 0,.int .i64 0,.slice none 0 0,.slice none 0 0,.slice none 0 0],.int .i64 0,.bool false]),false⟩,aF,EI,aF,Iy,aF,EI,aF,⟨.slice 50,1,24,some (.slice none 0 0),false⟩,EI,aF,aF,rQ,aF,Ov,aF,aF,IC,⟨.other,1,0,some (.tuple #[.int .i64 0,.slice none 0 0,.slice none 0 0,.bool false]),false⟩,aF,aF,aF,aF,Iz,aF,aF,⟨.slice 21,1,24,some (.slice none 0 0),false⟩,Iy,aF,aF,aF,⟨.slice 250,1,24,some (.slice none 0 0),false⟩,EI,aF,Ow,Ow,aF,Ox,aF,rQ,aF,aF,aF,⟨.slice 327,1,24,some (.slice none 0 0),false⟩,Oy,Oy,⟨.other,1,0,some (.tuple #[.int .i64 0,.int .i64 0,.slice none 0 0,.agg #[.int .i64 0,.slice none 0 0],.bool false]),false⟩,aF,Oz,aF,Ox,aF,aF,aF,aF,OA,OA,⟨.slice 281,1,24,some (.slice none 0 0),false⟩,OB,OB,⟨.other,1,0,some (.tuple #[.agg #[.int .i64 0,.int .i64 0,.int .i64 0,.slice none 0 0,.slice none 0 0],.bool false]),false⟩,aF,aF,aF,Oz,aF,Ov,aF,aF,OC,OC,OD,OD,⟨.other,1,0,some (.tuple #[.agg #[.int .i64 0,.bool false,.slice none 0 0,.slice none 0 0,.bool false],.bool false]),false⟩,aF,aF,rQ,aF,⟨.other,1,0,some (.tuple #[.int .i64 0,.agg #[.int .i64 0,.int .i64 0]]),false⟩,aF,⟨.slice 206,1,24,some (.slice none 0 0),false⟩,Oo,aF,aF,rQ,aF,⟨.pointer 204,1,8,some (.pointer none),false⟩,⟨.map 3 22,1,8,some (.map none),false⟩,OE,OE,uY,uY,aF,aF,⟨.slice 316,1,24,some (.slice none 0 0),false⟩,OG,OG,⟨.other,1,0,some (.tuple #[.agg #[.slice none 0 0,.slice none 0 0,.int .i64 0],.bool false]),false⟩,aF,aF,rQ,aF,aF,IC,aF,aF,⟨.other,1,0,some (.tuple #[.slice none 0 0,.bool false,.int .i64 0,.bool false]),false⟩,aF,aF,aF,⟨.other,1,0,some (.tuple #[.int .i64 0,.bool false]),false⟩,aF,aF,aF,aF,aF,aF,⟨.slice 233,1,24,some (.slice none 0 0),false⟩,⟨.array 2 3,2,16,some (.agg #[.int .i64 0,.int .i64 0]),false⟩,OH,OH,⟨.slice 235,1,24,some (.slice none 0 0),false⟩,⟨.other,1,0,some (.tuple #[.int .i64 0,.int .i64 0]),false⟩,aF,⟨.other,1,0,some (.tuple #[.int .i64 0,.int .i64 0,.agg #[.int .i64 0,.int .i64 0]]),false⟩,aF,B0,aF,B0,aF,aF,aF,aF,aF,Iv,Iv,aF,aF,aF,B0,aF,aF,aF,⟨.array 256 5,256,256,some (.agg (List.replicate 256 (.int .u8 0)).toArray),false⟩,OI,OI,⟨.array 16 260,32,32,some (.agg (List.replicate 32 (.int .u8 0)).toArray),false⟩,aF,aF,aF,aF,Iz,aF,aF,aF,aF,aF,aF,aF,⟨.array 4 3,4,32,some (.agg #[.int .i64 0,.int .i64 0,.int .i64 0,.int .i64 0]),false⟩,⟨.slice 279,1,24,some (.slice none 0 0),false⟩,rQ,aF,OJ,OJ,OK,OK,aF,aF,aF,aF,aF,aF,⟨.int .i16,1,2,some (.int .i16 0),false⟩,⟨.int .u16,1,2,some (.int .u16 0),false⟩,B0,aF,aF,aF,aF,⟨.slice 4,1,24,some (.slice none 0 0),false⟩,aF,aF,aF,aF,aF,⟨.pointer 303,1,8,some (.pointer none),false⟩,OL,OL,aF,aF,aF,B0,aF,aF,aF,⟨.other,1,0,some (.tuple #[.string ⟨#[]⟩,.string ⟨#[]⟩,.bool false]),false⟩,aF,aF,aF,uY,uY,aF,aF,aF,aF,⟨.int .u32,1,4,some (.int .u32 0),false⟩,aF,aF,aF,aF,⟨.other,1,0,some (.tuple #[.agg #[.int .i64 0,.int .i64 0],.int .i64 0,.agg #[.int .i64 0,.int .i64 0]]),false⟩,⟨.array 3 5,3,3,some (.agg #[.int .u8 0,.int .u8 0,.int .u8 0]),false⟩,aF,aF,aF,aF,aF,⟨.other,1,0,some (.tuple #[.agg #[.int .u8 0,.slice none 0 0,.int .i64 0],.int .i64 0,.agg #[.int .i64 0,.int .i64 0]]),false⟩,⟨.pointer 336,1,8,some (.pointer none),false⟩,OM,OM,⟨.other,1,0,some (.tuple #[.slice none 0 0,.bool false,.bool false]),false⟩,aF,aF,aF,aF,aF,aF,aF,aF,⟨.other,1,0,some (.tuple #[.agg #[.int .i64 0,.slice none 0 0],.int .i64 0,.agg #[.int .i64 0,.int .i64 0]]),false⟩,aF,ON,ON,⟨.other,1,0,some (.tuple #[.agg (List.replicate 256 (.bool false)).toArray,.bool false]),false⟩,aF,aF,⟨.pointer 349,1,8,some (.pointer none),false⟩,⟨.other,1,0,some (.tuple #[.string ⟨#[]⟩,.bool false]),false⟩,aF,aF,aF,⟨.pointer 211,1,8,some (.pointer none),false⟩,⟨.pointer 316,1,8,some (.pointer none),false⟩,aF,aF,aF,aF,aF,⟨.other,1,0,some (.tuple #[.int .i32 0,.int .i64 0]),false⟩,aF,Iw,BZ,BZ,OO,aF,aF,aF,aF,aF,aF,aF,OP,aF,aF,aF,aF,⟨.array 24 5,24,24,some (.agg (List.replicate 24 (.int .u8 0)).toArray),false⟩,aF,aF,⟨.other,1,0,some (.tuple #[.slice none 0 0,.string ⟨#[]⟩]),false⟩,aF,aF,aF,aF,⟨.other,1,0,some (.tuple #[.int .u32 0,.int .u32 0]),false⟩,aF,OP,aF,⟨.array 4 5,4,4,some (.agg #[.int .u8 0,.int .u8 0,.int .u8 0,.int .u8 0]),false⟩,aF,aF,aF,aF,IA,OO,aF,⟨.pointer 416,1,8,some (.pointer none),false⟩,aF,aF,aF,⟨.array 20 218,20,160,some (.agg (List.replicate 20 (.int .u64 0)).toArray),false⟩,⟨.array 65 5,65,65,some (.agg (List.replicate 65 (.int .u8 0)).toArray),false⟩,aF,aF,aF,⟨.other,1,0,some (.tuple #[.int .u64 0,.nilIface]),false⟩,aF,aF,OQ,OQ,aF,aF,aF,⟨.pointer 5,1,8,some (.pointer none),false⟩,⟨.pointer 423,1,8,some (.pointer none),false⟩,OR,OR,⟨.array 32 5,32,32,some (.agg (List.replicate 32 (.int .u8 0)).toArray),false⟩,⟨.array 64 5,64,64,some (.agg (List.replicate 64 (.int .u8 0)).toArray),false⟩,OS,OS,⟨.array 0 16,0,0,some (.agg #[]),false⟩,OT,OT,EH,EH,aF,Iu,Iu,OU,OU,⟨.other,1,8,some (.pointer none),false⟩]
theorem ah:bK Tryz.prog sU:=ahb (es:=[31,71]) aj aj aj
theorem mixed:Tryz.prog.follows .mixedOrders=true:=aj
theorem eV{args:aD}{Z:List PanicEntry->ae->Prop}(hf:Tryz.prog.funcs[f]?=some fn)(n:Nat)(live:au)
  (h:ia ⟨Tryz.prog,sU,n,live,none⟩ c (me 0 args) [] w (IV ⟨Tryz.prog,sU,n,live,none⟩ fn.results.toList K Z)) (hb:fn.body=some c:=by exact rfl) (hname:(fn.name == "runtime.NumGoroutine")=false:=by kernel_rfl) (hn:fn.ntmps=n:=by exact rfl) (ha:args.length<=n:=by simp):cw Tryz.prog f args.toArray w K Z :=
 Ya ah hf hb hname n hn ha live h
theorem dV{live:au}{r:Option Nat}(id:Nat){ops:Array Oper}{env:Env}{ds:List Deferred}{w0 V0 V w:ae}{own:bU}{Q:ic}(xs π:au)(H:Rel w0 V0 own V w)
  (h:∀w1,Rel w0 V0 own V w1->y9 ⟨Tryz.prog,sU,n,live,r⟩ ops.toList xs π env w1 (λaJ w'=>nG aJ live λe'=>Q .normal e' ds w') (λch w'=>Q (.panic ch) [] ds w')) (hok:yv sU ops.toList xs π π=true:=by kernel_rfl) :
  aP ⟨Tryz.prog,sU,n,live,r⟩ (.region id ops true) env ds w Q:=O6 ah mixed xs π hok λw1 hd=>h w1 (H.ext hd.ext)
theorem abF(b:UInt8):dx ((b.toNat:Nat):Int):=by
 have:=b.toNat_lt;constructor<;>omega
theorem Bd :step P (lone (b.atR a (.code (.scope c)::k)) cs w)=.next (lone (b.atR a (.code c::.inScope c::k)) cs w) :=
 step_lone_go (by simp[stepG,stepG.exec,Frame.atR])
theorem agW :step P (lone (b.atR a (.inScope c::k)) cs w)=.next (lone (b.atR a k) cs w) :=
 step_lone_go (by simp[stepG,stepG.exec,Frame.atR])
theorem aiw{F:Fence}{Q:Exit->Act->ae->Prop}(h:c.wpIn F n P (Exit.noGoto Q) a w):(Code.scope c).wpIn F n P Q a w:=by
 intro b k cs hro hb hr;have h0:(lone (b.atR a (.code (.scope c)::k)) cs w).fenced P F:=fenced_calm hb hr rfl;obtain⟨e,o8,oS,hq,harr⟩:=h b (.inScope c::k) cs hro hb hr;cases e with
 | normal=>exact⟨.normal,o8,oS,hq,.head h0 Bd (StepsIn.trans harr (.one (fenced_calm hb hr rfl) agW))⟩
 | exit id =>
  have hx:exitTo id (.inScope c::k)=exitTo id k:=by simp[exitTo]
  exact⟨.exit id,o8,oS,hq,λk' hk=>.head h0 Bd (harr.1 k' (by rw[hx];exact hk)),
   λhr' hk=>let⟨k₁,h1,h2⟩:=harr.2 hr' (by rw[hx];exact hk);⟨k₁,h1,.head h0 Bd h2⟩⟩
 | goto l=>exact hq.elim
 | ret=>exact⟨_,o8,oS,hq,.of_steps (.one h0 Bd) harr⟩
 | panic ch=>exact⟨_,o8,oS,hq,.of_steps (.one h0 Bd) harr⟩
 | outgrown=>exact⟨_,o8,oS,hq,.of_steps (.one h0 Bd) harr⟩
theorem Mo{C:Cx}(hT:bK C.P C.T){c:Code}{env:Env}{ds:List Deferred}{w:ae}{Q:ic}(h:ia C c env ds w λe aJ ds' w'=>(match e with
  | .goto _=>False
  | e=>Q e aJ ds' w')):aP C (.scope c) env ds w Q:=by
 refine⟨λa hs hn hd=>aiw (wpIn_mono ((sY hT h).out a hs hn hd) λe a' w' ⟨h1,aJ,h2,h3⟩=>?_)⟩;cases e with
 | goto l=>exact h3.elim
 | _=>exact⟨h1,aJ,h2,h3⟩
section
variable{w0 V0 V w:ae}{own:bU}
theorem Rel.newObj(H:Rel w0 V0 own V w)(o:Obj):Rel w0 V0 (.obj w.heap.size o::own) V (w.alloc o) :=
 H.more ((Below.refl _ _).alloc (aK _) _) (heap_alloc_new w o) λb hb=>by cases hb;exact aK _
theorem Rel.range{P:Program}{T:List TD}(hT:bK P T){t:TypeId}{d:TD}(hd:T[t]?=some d)(hu:d.under=.string)(H:Rel w0 V0 own V w){s:ByteArray}{k:ao->ae->Prop}
  (hk:∀w' b,Rel w0 V0 (.obj b (.stringIter s 0)::own) V w'->k (.pointer (some ⟨b,0,none⟩)) w'):bo P (Instr.range t (.string s)) w k:=by
 have ht:P.underlying t=some .string:=by
  obtain⟨d0,q1,q2⟩:=(hT t d hd).under;rw[hu]at q2;cases d0<;>first|(simp_all[c8];done)|(simp only[c8]at q2;split at q2<;>cases q2)
 exact .of (run_range_string w t s ht) (hk _ _ (H.newObj _))
theorem Rel.setObj{b:Nat}{o o':Obj}(H:Rel w0 V0 (.obj b o::own) V w):Rel w0 V0 (.obj b o'::own) V { w with heap:=w.heap.setIfInBounds b o' }:=by
 have hb:w.heap[b]?=some o:=H.laid (.obj b o) ai;have hlt:=(jG.1 hb).1;exact H.put (i:=0) rfl rfl rfl rfl ai (λc hc hn=>by
  have:b≠c:=λe=>hn (by rw[e];rfl);simp[Array.getElem?_setIfInBounds_ne this]) (by simp[aN.laid,hlt]) λc hc=>.inl hc
theorem Rel.next{P:Program}{ty b pos:Nat}{s:ByteArray}(H:Rel w0 V0 (.obj b (.stringIter s pos)::own) V w){k:ao->ae->Prop}
  (h1:pos<s.size->∀w',Rel w0 V0 (.obj b (.stringIter s (pos+(Utf8.decode s pos).2))::own) V w'->k (.tuple #[.bool true,.int .i64 pos,.int .i32 (Utf8.decode s pos).1]) w')
  (h2:¬pos<s.size->k (.tuple #[.bool false]) w):bo P (Instr.next (.pointer (some ⟨b,0,none⟩)) true ty) w k:=by
 have hb:w.heap[b]?=some (.stringIter s pos):=H.laid (.obj b (.stringIter s pos)) ai;by_cases h:pos<s.size
 ·refine .of ?_ (h1 h _ H.setObj);simp[Instr.next,getObj,Go.setObj,Sem.run,hb,h,goInt]
 ·refine .of ?_ (h2 h);simp[Instr.next,getObj,Sem.run,hb,h]
end
theorem decode_high(s:ByteArray)(pos:Nat)(h:pos<s.size)(ha:128<=(s[pos]'h).toNat):128<=(Utf8.decode s pos).1:=by
 have e:s.get! (pos+0)=s[pos]'h:=by
  show s.get! pos=_;simp[ByteArray.get!,getElem!_pos,h];rfl
 have ha':¬(s[pos]'h).toNat<128:=aa;simp only[Utf8.decode,e,ha',if_false];split
 ·split
  ·rename_i h1;simpa using h1
  ·decide
 ·split
  ·split
   ·rename_i h1;simp at h1;dsimp only;omega
   ·decide
  ·split
   ·split
    ·rename_i h1;simp at h1;dsimp only;omega
    ·decide
   ·decide
theorem eD.sF(hf:P.funcs[f]?=some fn)(hb:fn.body.isSome=true)(hn:(fn.name == "runtime.NumGoroutine")=false)
  (h:Calls P f args w λe w'=>∃v,e=.returned v/\K v w'):eD P f args w K :=
 ⟨.inl ⟨xe hf hb hn,Calls.lM h λe w' ⟨v,he,hk⟩=>by subst he;exact hk⟩⟩
theorem eD.FW{e:Array ao->Sem ao}{w':ae}{v:ao}(hf:P.funcs[f]?=some fn)(hname:(fn.name == "runtime.NumGoroutine")=false)
  (hb:fn.body.isNone=true) (hn:Extern.findNext fn=none) (he:Extern.find fn=some e) (hr:(e args).run P w=.ok v w') (hk:K v w'):eD P f args w K :=
 ⟨.inr ⟨v,w',by rw[run_callFunc_extern hf hname hb hn he,hr];rfl,hk⟩⟩
theorem agv(s:ByteArray)(c:Int)(w:ae) :
  Calls Tryz.prog 324 #[.string s,.int .u8 c] w λe w'=>e=.returned (.int .i64 (Lib.indexByte s.data.toList c.toNat.toUInt8))/\w'=w:=by
 go_enter Tryz.func324,Tryz.ntmps324;go_wp2;rw[run_callFunc_extern Tryz.func331 aj aj aj (e:=Extern.BytealgIndexByte.indexByte) aj,Lib.run_indexByteString];simp only[Result.andThen];rw[Oper.upon_value];go_wp2;go_ret;exact⟨rfl,rfl⟩
theorem Av(s:ad)(c:Int)(w:ae):aC 302 [str s,.int .u8 c] w λv w'=>v=iv (Lib.indexByte s c.toNat.toUInt8)/\w=w':=by
 refine eV Tryz.func302 8 [0,1,4] ?_;conv=>whnf
 refine eD.use (eD.sF (K:=λv w'=>v=iv (Lib.indexByte s c.toNat.toUInt8)/\w=w') Tryz.func324 rfl aj (Calls.lM (agv _ _ _) λe w' ⟨he,hw⟩=>⟨_,he,rfl,hw.symm⟩)) ?_;rintro v w'⟨rfl,rfl⟩;conv=>whnf
 exact⟨rfl,rfl⟩
theorem indexByte_none{s:ad}{c:UInt8}(h:∀b∈s,b≠c):Lib.indexByte s c = -1:=by
 induction s with
 | nil=>rfl
 | cons b l ih =>
  have h1:=h b ai;simp only[Lib.indexByte,ih λx hx=>h x (by simp[hx])];simp[h1]
theorem aie(r:Int)(w:ae):aC 356 [.int .i32 r] w λv w'=>v=.bool (Utf8.valid r)/\w=w':=by
 rw[validRune_eq];refine eV Tryz.func356 17 [0,2,3,10] ?_;by_cases h1:0<=r/\r<55296
 ·have e:validRune r=true:=by simp[validRune];omega
  rw[e];(repeat ((conv=>whnf);first|refine And.intro (by first|omega|exact rfl) ?_|refine gI (λ_=>?_) (λh=>False.elim aa)|refine gI (λh=>False.elim aa) (λ_=>?_)));(conv=>whnf);try exact rfl
 ·by_cases h2:57343<r/\r<=1114111
  ·have e:validRune r=true:=by simp[validRune];omega
   rw[e];by_cases h3:0<=r
   ·(repeat ((conv=>whnf);first|refine And.intro (by first|omega|exact rfl) ?_|refine gI (λ_=>?_) (λh=>False.elim aa)|refine gI (λh=>False.elim aa) (λ_=>?_)));(conv=>whnf);try exact rfl
   ·omega
  ·have e:validRune r=false:=by simp[validRune];omega
   rw[e];by_cases h3:0<=r
   ·by_cases h4:57343<r
    ·(repeat ((conv=>whnf);first|refine And.intro (by first|omega|exact rfl) ?_|refine gI (λ_=>?_) (λh=>False.elim aa)|refine gI (λh=>False.elim aa) (λ_=>?_)));(conv=>whnf);try exact⟨by simp;omega,rfl⟩
    ·(repeat ((conv=>whnf);first|refine And.intro (by first|omega|exact rfl) ?_|refine gI (λ_=>?_) (λh=>False.elim aa)|refine gI (λh=>False.elim aa) (λ_=>?_)));(conv=>whnf);try exact rfl
   ·(repeat ((conv=>whnf);first|refine And.intro (by first|omega|exact rfl) ?_|refine gI (λ_=>?_) (λh=>False.elim aa)|refine gI (λh=>False.elim aa) (λ_=>?_)));(conv=>whnf);try exact rfl
abbrev marks:ad:=[45,95,46]
theorem abL(hV:Sub V W)(r:Int)(h0:0<=r)(h1:r<=2147483647):aC 361 [str marks,.int .i32 r] W λv w'=>(∃i:Int,v=iv i/\(0<=i↔r=45\/r=95\/r=46))/\Rel W V [] V w':=by
 have H:=Rel.start hV;by_cases h2:r<128
 ·refine eV Tryz.func361 187 [0,1,4,5,6,7,8,9,10,11,12,13,14,15,16,26,33,43,51,64,98,108,124,139,143,156,160,171,175,176,177,181,183] ?_;refine wk ?_;refine(Av marks _ _).use ?_;rintro v w⟨rfl,rfl⟩;refine wk ?_;refine⟨⟨_,rfl,?_⟩,H⟩;rw[show(wr IntKind.u8 r).toNat=r.toNat by show(r%256).toNat=r.toNat;omega];obtain⟨n,rfl⟩:∃n:Nat,r=n:=⟨r.toNat,aa⟩
  simp only[e8];have hn:n<128:=aa;have key:∀n:Fin 128,(0<=Lib.indexByte marks n.val.toUInt8↔n.val=45\/n.val=95\/n.val=46):=ag;have:=key ⟨n,hn⟩;dsimp only at this;rw[this];omega
 by_cases h3:r=65533
 ·subst h3;refine eV Tryz.func361 187 [0,1,4,5,6,7,8,9,10,11,12,13,14,15,16,26,33,43,51,64,98,108,124,139,143,156,160,171,175,176,177,181,183] ?_;refine wk ?_;refine Rel.range ah rfl rfl H ?_;clear H;intro w b H;refine wk ?_;refine aY ah [0,1,7,8,9,10,11,12,13,14,15,16,26,33,43,51,64,98,108,124,139,143,156,160,171,175,183] (λ_:Nat=>[]) (λk w'=>k<=3/\Rel W V [.obj b (.stringIter ⟨marks.toArray⟩ k)] V w') (λk _=>3-k) 0 ?_;conv=>whnf
  refine⟨trivial,⟨aa,H⟩,?_⟩;clear H;rintro k w⟨hk,H⟩;conv=>whnf
  refine Rel.next H (λhlt w H=>?_) (λhlt=>?_)
  ·have gU:k<3:=hlt;have hd:Utf8.decode ⟨marks.toArray⟩ k=(([45,95,46]:au)[k]'(by simpa using gU),1):=by
    have:k=0\/k=1\/k=2:=aa;rcases this with rfl|rfl|rfl<;>rfl
   rw[hd]at H |-;have hne:(([45,95,46]:au)[k]'(by simpa using gU))<128:=by
    have:k=0\/k=1\/k=2:=aa;rcases this with rfl|rfl|rfl<;>simp
   generalize (([45,95,46]:au)[k]'(by simpa using gU))=c at hne;refine wk ?_;exact⟨sB,k+1,trivial,⟨aa,H⟩,aa⟩
  ·refine wk ?_;exact⟨⟨_,rfl,aa⟩,H.sx⟩
 refine eV Tryz.func361 187 [0,1,4,5,6,7,8,9,10,11,12,13,14,15,16,26,33,43,51,64,98,108,124,139,143,156,160,171,175,176,177,181,183] ?_;refine wk ?_;refine(aie r _).use ?_;rintro v w⟨rfl,rfl⟩;conv=>whnf
 cases hv:Utf8.valid r with
 | false =>
  conv=>whnf
  exact⟨⟨_,rfl,aa⟩,H⟩
 | true =>
  obtain⟨e1,e2,e3⟩:=encode_facts r hv aa;obtain⟨es,JE⟩:∃es:ad,Utf8.encode r=⟨es.toArray⟩:=⟨(Utf8.encode r).data.toList,rfl⟩
  rw[JE]at e1 e2;have e1':2<=es.length:=e1;have e2':es.length<=4:=e2;have Za:∃b,es[es.length-1]?=some b/\128<=b.toNat:=by
   refine⟨es[es.length-1],by simp<;>omega,?_⟩;rw[JE]at e3;exact e3 (show es.length-1<es.length by omega)
  obtain⟨lb,QT,aja⟩:=Za;conv=>whnf
  refine Mo ah ?_;conv=>whnf
  refine bo.of (run_convert_int_string _ _ _ _ _ aj aj) ?_;rw[JE];refine wk ?_;have hsz:(ByteArray.mk marks.toArray).size=3:=rfl;have ai7:(ByteArray.mk es.toArray).size=es.length:=rfl;refine aY (S:=Unit) ah [0,1,5,6,7,8,13,14,15,16,108,124,139,143,156,160,171,175,176,177,181,183] (λ_=>[(9,.int .i64 ((es.length:Int)-1)),(10,.int .i64 0)]) (λ_ w'=>Rel W V [] V w') (λ_ _=>0) () ?_;conv=>whnf
  refine⟨⟨rfl,rfl,trivial⟩,H,?_⟩;clear H;rintro _ w H;by_cases h5:es.length-1<3
  ·refine wk ?_;refine Mo ah ?_;conv=>whnf
   obtain⟨mb,sf,aje⟩:∃mb:UInt8,marks[((es.length:Int)-1).toNat]?=some mb/\mb.toNat<128:=by
    have:((es.length:Int)-1).toNat=1\/((es.length:Int)-1).toNat=2:=aa;rcases this with h|h<;>rw[h]
    ·exact⟨95,rfl,ag⟩
    ·exact⟨46,rfl,ag⟩
   have ai9:es[((es.length:Int)-1).toNat]?=some lb:=by rw[show((es.length:Int)-1).toNat=es.length-1 by omega];exact QT
   have mw:marks.length=3:=rfl;(first|refine dV 6 [] [0,1,2,3,4,5,6] H ?_|refine dV 7 [] [0,1,2,3,4,5,6,7,8] H ?_|refine dV 14 [] [0,1,2,3,4,5,6,7,8,9,10] H ?_|refine dV 31 [] [0,1,2,3,4,5,6,7,8,9,10] H ?_);clear H;intro w H;refine wk ?_;(first|refine dV 6 [] [0,1,2,3,4,5,6] H ?_|refine dV 7 [] [0,1,2,3,4,5,6,7,8] H ?_|refine dV 14 [] [0,1,2,3,4,5,6,7,8,9,10] H ?_|refine dV 31 [] [0,1,2,3,4,5,6,7,8,9,10] H ?_);clear H;intro w H;refine wk ?_;refine(Av _ _ _).use ?_;rintro v w⟨rfl,rfl⟩;rw[indexByte_none];rotate_left
   ·intro b hb e;have gK:=List.mem_of_mem_take (List.mem_of_mem_drop hb);have hlt:b.toNat<128:=by
     simp only[marks,bB,List.not_mem_nil,or_false]at gK;rcases gK with rfl|rfl|rfl<;>decide
    have:(lb.toNat).toUInt8=lb:=ai;rw[e8,this]at e;subst e;omega
   refine wk ?_;exact⟨⟨_,rfl,aa⟩,H⟩
  ·refine wk ?_;exact⟨⟨_,rfl,aa⟩,H⟩
def jh(n:Nat):Bool:=decide ((97<=n/\n<=122)\/(48<=n/\n<=57)\/n=45\/n=95\/n=46)
theorem Ik(hV:Sub V W)(r:Int)(h0:0<=r)(h1:r<=2147483647):aC 343 [str marks,.int .i32 r] W λv w'=>v=.bool (decide (r=45\/r=95\/r=46))/\Rel W V [] V w':=by
 refine eV Tryz.func343 9 [0,1,4] ?_;conv=>whnf
 refine(abL hV r h0 h1).use ?_;rintro v w⟨⟨i,rfl,hi⟩,H⟩;conv=>whnf
 exact⟨by simp only[hi],H⟩
theorem ac5(hV:Sub V W)(r:Nat)(h1:r<=2147483647):aC 342 [.int .i32 r] W λv w'=>v=.bool (!jh r)/\Rel W V [] V w':=by
 have H:=Rel.start hV;refine eV Tryz.func342 22 [0,2] ?_;by_cases g1:97<=r/\r<=122
 ·have e:jh r=true:=by simp[jh];omega
  rw[e];refine wk ?_;exact H
 by_cases g2:48<=r/\r<=57
 ·have e:jh r=true:=by simp[jh];omega
  rw[e];by_cases g3:r<97
  ·refine wk ?_;exact H
  ·omega
 have e:jh r=decide ((r:Int)=45\/(r:Int)=95\/(r:Int)=46):=by simp only[jh];congr 1;simp only[eq_iff_iff];omega
 rw[e];by_cases g3:r<97
 ·by_cases g4:r<48
  ·refine wk ?_;refine(Ik hV r aa aa).use ?_;rintro v w⟨rfl,H⟩;conv=>whnf
   exact⟨rfl,H⟩
  ·refine wk ?_;refine(Ik hV r aa aa).use ?_;rintro v w⟨rfl,H⟩;conv=>whnf
   exact⟨rfl,H⟩
 ·refine wk ?_;refine(Ik hV r aa aa).use ?_;rintro v w⟨rfl,H⟩;conv=>whnf
  exact⟨rfl,H⟩
theorem Y5(s:ByteArray)(pos:Nat):(Utf8.decode s pos).1<=2147483647:=by
 have h:∀b:UInt8,b.toNat<256:=λb=>b.toNat_lt;have e0:=h (s.get! (pos+0));have e1:=h (s.get! (pos+1));have e2:=h (s.get! (pos+2));have e3:=h (s.get! (pos+3));unfold Utf8.decode;dsimp only;repeat' split
 all_goals first|(simp only[Utf8.runeError];omega)|(dsimp only;omega)
theorem HQ{g:UInt8->Bool}{s:ad}{k:Nat}(hk:k<s.length):(s.take (k+1)).all g=((s.take k).all g&&g s[k]):=by
 rw[List.take_succ_eq_append_getElem hk,List.all_append];simp
theorem abK(hV:Sub V W)(s:ad):aC 374 [str s,.func (.func 342) #[] #[],.bool true] W λv w'=>(∃i:Int,v=iv i/\(0<=i↔s.all (λb=>jh b.toNat)=false))/\Rel W V [] V w':=by
 have H:=Rel.start hV;have hsz:(ByteArray.mk s.toArray).size=s.length:=rfl;refine eV Tryz.func374 21 [0,1,2,6,7,8,10,11,12,19] ?_;refine wk ?_;refine Rel.range ah rfl rfl H ?_;clear H;intro w b H;refine wk ?_;refine aY ah [0,1,2,10] (λ_:Nat=>[]) (λk w'=>k<=s.length/\(s.take k).all (λb=>jh b.toNat)=true/\Rel W V [.obj b (.stringIter ⟨s.toArray⟩ k)] V w') (λk _=>s.length-k) 0 ?_;conv=>whnf
 refine⟨trivial,⟨aa,ai,H⟩,?_⟩;clear H;rintro k w⟨hk,hall,H⟩;conv=>whnf
 refine Rel.next H (λhlt w H=>?_) (λhlt=>?_)
 ·have gU:k<s.length:=hlt;have hat:HQ (g:=λb=>jh b.toNat) gU=HQ (g:=λb=>jh b.toNat) gU:=rfl;have hcl:=Y5 ⟨s.toArray⟩ k;have sq:(ByteArray.mk s.toArray)[k]'hlt=s[k]:=rfl;refine wk ?_;refine(ac5 H.data _ hcl).use ?_;rintro v w⟨rfl,K⟩;replace H:=H.call K;by_cases ha:(s[k]).toNat<128
  ·rw[decode_ascii _ k hlt ha]at H |-;dsimp only at H |-;rw[sq];cases hok:jh (s[k]).toNat with
   | true =>
    conv=>whnf
    refine⟨rfl,sB,k+1,trivial,⟨aa,?_,H⟩,aa⟩;rw[HQ gU,hall,hok];rfl
   | false =>
    refine wk ?_;refine⟨⟨_,rfl,?_⟩,H.sx⟩;refine⟨λ_=>?_,λ_=>by omega⟩;rw[<-Gz,bj];intro h;have:=h s[k] (cj gU);rw[hok]at this;cases this
  ·have hh:=decode_high _ k hlt (by rw[sq];omega);have hok:jh (Utf8.decode ⟨s.toArray⟩ k).1=false:=by simp[jh];omega
   rw[hok];refine wk ?_;refine⟨⟨_,rfl,?_⟩,H.sx⟩;refine⟨λ_=>?_,λ_=>by omega⟩;rw[<-Gz,bj];intro h;have:=h s[k] (cj gU);simp[jh]at this;omega
 ·refine wk ?_;have fP:k=s.length:=by have:¬k<s.length:=hlt;omega
  rw[fP,List.take_length]at hall;refine⟨⟨_,rfl,?_⟩,H.sx⟩;rw[hall];simp
theorem YF(hV:Sub V W)(s:ad):aC 341 [str s,.func (.func 342) #[] #[]] W λv w'=>v=.bool (!s.all (λb=>jh b.toNat))/\Rel W V [] V w':=by
 refine eV Tryz.func341 9 [0,1,4] ?_;conv=>whnf
 have key:aC 360 [str s,.func (.func 342) #[] #[]] W λv w'=>(∃i:Int,v=iv i/\(0<=i↔s.all (λb=>jh b.toNat)=false))/\Rel W V [] V w':=by
  refine eV Tryz.func360 8 [0,1,4] ?_;conv=>whnf
  refine(abK hV s).use ?_;rintro v w⟨⟨i,rfl,hi⟩,H⟩;conv=>whnf
  exact⟨⟨_,rfl,hi⟩,H⟩
 refine key.use ?_;rintro v w⟨⟨i,rfl,hi⟩,H⟩;conv=>whnf
 refine⟨?_,H⟩;cases h:s.all (λb=>jh b.toNat)with
 | true=>simp[h]at hi;simp;omega
 | false=>simp[h]at hi;simp[hi]
def gx(s:ad):Bool:=decide (1<=s.length/\s.length<=32)&&(decide (97<=(s[0]?.getD 0).toNat/\(s[0]?.getD 0).toNat<=122)&&s.all λb=>jh b.toNat)
theorem Si(hV:Sub V W)(s:ad):aC 317 [str s] W λv w'=>v=.bool (gx s)/\Rel W V [] V w':=by
 have H:=Rel.start hV;have hsz:(ByteArray.mk s.toArray).size=s.length:=rfl;refine eV Tryz.func317 23 [0,2,19] ?_;rcases s with _|⟨c,s⟩
 ·refine wk ?_;exact H
 have dR:(c::s)[(0:Int).toNat]?=some c:=rfl;by_cases g1:32<(c::s).length
 ·refine wk ?_;refine⟨?_,H⟩;have:¬(c::s).length<=32:=aa;simp only[gx,this,and_false,decide_false,yA]
 have e1:gx (c::s)=(decide (97<=c.toNat/\c.toNat<=122)&&(c::s).all λb=>jh b.toNat):=by
  have:1<=(c::s).length/\(c::s).length<=32:=⟨ai,aa⟩
  simp only[gx,this,and_self,decide_true,sL];rfl
 rw[e1];by_cases g2:c.toNat<97
 ·refine wk ?_;refine⟨?_,H⟩;simp[show ¬97<=c.toNat by omega]
 by_cases g3:122<c.toNat
 ·refine wk ?_;refine⟨?_,H⟩;simp[show ¬c.toNat<=122 by omega]
 refine wk ?_;refine(YF hV (c::s)).use ?_;rintro v w⟨rfl,H⟩;conv=>whnf
 refine⟨?_,H⟩;simp[show 97<=c.toNat by omega,show c.toNat<=122 by omega]
structure aB{α:Type}(f:α->aD)(V:ae)(s:Sl)(l:List α):Prop where
 len:s.len=l.length
 cap:s.len<=s.cap
 cells:Cells V s.a (l.flatMap f)
section
variable{α:Type}{f:α->aD}{n:Nat}{V V':ae}{s:Sl}{l:List α}
theorem aB.up(h:aB f V s l)(k:Sub V V'):aB f V' s l:=⟨h.len,h.cap,h.cells.fa k⟩
theorem aB.nil(f:α->aD)(V:ae):aB f V ⟨none,0,0⟩ []:=⟨rfl,aK _,⟨λh=>absurd rfl h,λj v hj=>by simp at hj⟩⟩
theorem pf(hf:∀x,(f x).length=n):∀l:List α,(l.flatMap f).length=l.length*n
 | []=>by simp
 | x::l=>by simp only[bz,aq,hf,pf hf l,av,mL];omega
theorem PM(hf:∀x,(f x).length=n)(b:Nat):(l.flatMap f).take (b*n)=(l.take b).flatMap f:=by
 induction b generalizing l with
 | zero=>simp
 | succ b ih =>
  cases l with
  | nil=>simp
  | cons x l =>
   simp only[bz,A6];rw[List.take_append,hf,bR (by rw[hf,mL];omega),show(b+1)*n-n=b*n by rw[mL];omega,ih]
theorem PG(hf:∀x,(f x).length=n)(b:Nat):(l.flatMap f).drop (b*n)=(l.drop b).flatMap f:=by
 induction b generalizing l with
 | zero=>simp
 | succ b ih =>
  cases l with
  | nil=>simp
  | cons x l =>
   simp only[bz,List.drop_succ_cons];rw[List.drop_append,hf,pW (by rw[hf,mL];omega),show(b+1)*n-n=b*n by rw[mL];omega,ih];rfl
theorem ZS(hf:∀x,(f x).length=n){i j:Nat}(hi:i<l.length)(hj:j<n):(l.flatMap f)[i*n+j]?=(f l[i])[j]?:=by
 rw[<-List.getElem?_drop,PG hf,j4 hi,bz,List.getElem?_append_left (by rw[hf];exact hj)]
theorem aB.get(h:aB f V s l)(hf:∀x,(f x).length=n)(hn:0<n){i:Nat}(hi:i<l.length):Plain s.a/\∀j v,(f l[i])[j]?=some v->V.cell? ⟨bD s.a,bw s.a+i*n+j,none⟩=some v:=by
 refine⟨h.cells.1 λe=>?_,λj v hj=>?_⟩
 ·have:=congrArg List.length e;rw[pf hf]at this;have:0<l.length*n:=Lm aa hn;simp_all
 ·have hjn:j<n:=by
   have:=(cW.1 hj).1;rwa [hf]at this
  rw[Nat.add_assoc];exact h.cells.2 _ v (by rw[ZS hf hi hjn];exact hj)
theorem aB.sub(h:aB f V s l)(hf:∀x,(f x).length=n){a b:Nat}(hab:a<=b)(hb:b<=l.length):aB f V ⟨aU s.a a s.cap n,b-a,s.cap-a⟩ ((l.take b).drop a):=by
 have h1:=h.len;have h2:=h.cap;refine⟨by simp;omega,by dsimp only;omega,?_⟩;have:=h.cells.sub (i:=a) (b:=b) (m:=s.cap) n aa hab;rw[PM hf,PG hf]at this;exact this
end
theorem aB.rW{f:α->aD}{l:List α}(h:aB f V s l){g:α->ao}(hf:∀x,f x=[g x]){i:Nat}(hi:i<l.length):Plain s.a/\V.cell? ⟨bD s.a,bw s.a+i,none⟩=some (g l[i]):=by
 obtain⟨h1,h2⟩:=h.get (n:=1) (λx=>by rw[hf];rfl) aa hi;refine⟨h1,?_⟩;have:=h2 0 (g l[i]) (by rw[hf];rfl);simpa using this
abbrev p7(l:ad):aD:=[str l]
abbrev Nt:=aB p7
structure W5 where
 name:ad
 ver:Int
 deriving DecidableEq,Inhabited
abbrev HG:=Nat->UInt8
structure WK where
 name:ad
 ver:Int
 kind:Int
 day:Int
 size:Int
 sum:HG
 sources:List W5
 groups:bg
 emb:Int
 need:Int
 jC:Int
 csize:Int
 aiV:HG
 pieces:List HG
instance:Inhabited WK:=⟨⟨[],0,0,0,0,λ_=>0,[],[],0,0,0,0,λ_=>0,[]⟩⟩
theorem aB.YQ{f:α->aD}{l:List α}(h:aB f V s l)(hf:∀x,(f x).length=n){b:Nat}(hb:b<=l.length):aB f V ⟨aU s.a 0 s.cap n,b-0,s.cap-0⟩ (l.take b):=by
 have:=h.sub hf (Nat.zero_le b) hb;simpa using this
section
variable{w0 V0 V w:ae}{own:bU}
theorem aN.SA{r s:aN}(h:aN.off r s):aN.off s r:=λb hb hc=>h b hc hb
theorem Rel.perm(H:Rel w0 V0 own V w){own':bU}(h:own.Perm own'):Rel w0 V0 own' V w :=
 ⟨H.base,H.sub,H.old,λr hr=>H.laid r (h.mem_iff.2 hr),λr hr=>H.new r (h.mem_iff.2 hr),λr hr=>H.hid r (h.mem_iff.2 hr),(h.pairwise_iff aN.SA).1 H.apart,H.data⟩
theorem Rel.aT{f:α->aD}{e:Nat}{l:List α}(H:Rel w0 V0 (.row s e n (l.flatMap f)::own) V w)(hf:∀x,(f x).length=n)(hn:0<n):∃V',Sub V V'/\Rel w0 V0 own V' w/\aB f V' s l:=by
 obtain⟨V',h1,h2,h3,h4,h5⟩:=H.Z3;refine⟨V',h1,h2,?_,h4,h3⟩;rw[pf hf]at h5;exact(aem hn h5).symm
theorem Rel.gn{f:α->aD}{e:Nat}{l:List α}(H:Rel w0 V0 own V w)(hi:own[i]?=some (.row s e n (l.flatMap f)))(hf:∀x,(f x).length=n)(hn:0<n):s.len=l.length:=by
 have:=(H.rowAt hi).len;rw[pf hf]at this;exact(aem hn this).symm
theorem Rel.tf(hT:bK P T){t ty e:TypeId}{d de:TD}(hd:T[t]?=some d)(hu:d.under=.slice e)(hde:T[e]?=some de){z:ao}(hz:de.zero=some z)(hzs:z.cells.size=de.size)(hsz:0<de.size)
  {α:Type} {f:α->aD} {l:List α} {x:α} (hf:∀y,(f y).length=de.size) (h1:∀u∈f x,u.oneCell'=true) {s:Sl} {b:Nat} {t':TypeId} (H:Rel w0 V0 (.ax b (f x) t'::own) V w) {i:Nat} (hi:own[i]?=some (.row s e de.size (l.flatMap f)))
  (hb:(l.length+1)*de.bytes<=140737488355328) (hm:l.length+1<=4611686018427387904)
  {k:ao->ae->Prop} (hk:∀s' w',Rel w0 V0 (own.set i (.row s' e de.size ((l++[x]).flatMap f))) V w'->k s'.v w'):bo P (Builtin.append_ #[t,t] ty #[s.v,.slice (some ⟨b,0,none⟩) 1 1]) w k:=by
 have hx:Cells w (some ⟨b,0,none⟩) (f x):=(H.ql).cells;have hl:=H.w9.gn hi hf hsz;refine Rel.BG (x:=⟨some ⟨b,0,none⟩,1,1⟩) hT hd hu hde hz hzs hsz H (i:=i+1) (by simpa using hi) hx (by rw[hf];simp) h1 (by rw[hl];exact hb) (by rw[hl];exact hm) ?_;intro s' w' H' _;refine hk s' w' ?_;rw[bT];simp only[bz,List.flatMap_nil,List.append_nil];exact Rel.w9 (by simpa using H')
theorem Rel.dC(hT:bK P T){t ty e:TypeId}{d de:TD}(hd:T[t]?=some d)(hu:d.under=.slice e)(hde:T[e]?=some de){z:ao}(hz:de.zero=some z)(hzs:z.cells.size=de.size)(hsz:0<de.size)
  {α:Type} {f:α->aD} {l:List α} {x:α} (hf:∀y,(f y).length=de.size) (h1:∀u∈f x,u.oneCell'=true) {s:Sl} {b:Nat} {t':TypeId} (H:Rel w0 V0 (.ax b (f x) t'::.row s e de.size (l.flatMap f)::own) V w)
  (hb:(l.length+1)*de.bytes<=140737488355328) (hm:l.length+1<=4611686018427387904)
  {k:ao->ae->Prop} (hk:∀s' w',Rel w0 V0 (.row s' e de.size ((l++[x]).flatMap f)::own) V w'->k s'.v w'):bo P (Builtin.append_ #[t,t] ty #[s.v,.slice (some ⟨b,0,none⟩) 1 1]) w k :=
 Rel.tf hT hd hu hde hz hzs hsz hf h1 H (i:=0) rfl hb hm hk
theorem Rel.dI{r0:aN}(hT:bK P T){t ty e:TypeId}{d de:TD}(hd:T[t]?=some d)(hu:d.under=.slice e)(hde:T[e]?=some de){z:ao}(hz:de.zero=some z)(hzs:z.cells.size=de.size)(hsz:0<de.size)
  {α:Type} {f:α->aD} {l:List α} {x:α} (hf:∀y,(f y).length=de.size) (h1:∀u∈f x,u.oneCell'=true) {s:Sl} {b:Nat} {t':TypeId} (H:Rel w0 V0 (.ax b (f x) t'::r0::.row s e de.size (l.flatMap f)::own) V w)
  (hb:(l.length+1)*de.bytes<=140737488355328) (hm:l.length+1<=4611686018427387904)
  {k:ao->ae->Prop} (hk:∀s' w',Rel w0 V0 (r0::.row s' e de.size ((l++[x]).flatMap f)::own) V w'->k s'.v w'):bo P (Builtin.append_ #[t,t] ty #[s.v,.slice (some ⟨b,0,none⟩) 1 1]) w k :=
 Rel.tf hT hd hu hde hz hzs hsz hf h1 H (i:=1) rfl hb hm hk
theorem Rel.kh{r0:aN}{r:aN}(H:Rel w0 V0 (r0::r::own) V w):Rel w0 V0 (r::r0::own) V w:=H.perm (List.perm_middle (l₁:=[r0]))
theorem Rel.uN{r0 r1:aN}(hT:bK P T){t ty e:TypeId}{d de:TD}(hd:T[t]?=some d)(hu:d.under=.slice e)(hde:T[e]?=some de){z:ao}(hz:de.zero=some z)(hzs:z.cells.size=de.size)(hsz:0<de.size)
  {α:Type} {f:α->aD} {l:List α} {x:α} (hf:∀y,(f y).length=de.size) (h1:∀u∈f x,u.oneCell'=true) {s:Sl} {b:Nat} {t':TypeId} (H:Rel w0 V0 (.ax b (f x) t'::r0::r1::.row s e de.size (l.flatMap f)::own) V w)
  (hb:(l.length+1)*de.bytes<=140737488355328) (hm:l.length+1<=4611686018427387904)
  {k:ao->ae->Prop} (hk:∀s' w',Rel w0 V0 (r0::r1::.row s' e de.size ((l++[x]).flatMap f)::own) V w'->k s'.v w'):bo P (Builtin.append_ #[t,t] ty #[s.v,.slice (some ⟨b,0,none⟩) 1 1]) w k :=
 Rel.tf hT hd hu hde hz hzs hsz hf h1 H (i:=2) rfl hb hm hk
theorem Rel.Xv{r0 r1 r2:aN}(hT:bK P T){t ty e:TypeId}{d de:TD}(hd:T[t]?=some d)(hu:d.under=.slice e)(hde:T[e]?=some de){z:ao}(hz:de.zero=some z)(hzs:z.cells.size=de.size)(hsz:0<de.size)
  {α:Type} {f:α->aD} {l:List α} {x:α} (hf:∀y,(f y).length=de.size) (h1:∀u∈f x,u.oneCell'=true) {s:Sl} {b:Nat} {t':TypeId} (H:Rel w0 V0 (.ax b (f x) t'::r0::r1::r2::.row s e de.size (l.flatMap f)::own) V w)
  (hb:(l.length+1)*de.bytes<=140737488355328) (hm:l.length+1<=4611686018427387904)
  {k:ao->ae->Prop} (hk:∀s' w',Rel w0 V0 (r0::r1::r2::.row s' e de.size ((l++[x]).flatMap f)::own) V w'->k s'.v w'):bo P (Builtin.append_ #[t,t] ty #[s.v,.slice (some ⟨b,0,none⟩) 1 1]) w k :=
 Rel.tf hT hd hu hde hz hzs hsz hf h1 H (i:=3) rfl hb hm hk
end
section
variable{w0 V0 V w:ae}{own:bU}
theorem Rel.back(H:Rel w0 V0 own V w):Rel w0 V0 own V0 w :=
 ⟨H.base,Sub.refl _,λ_ _ h=>h,H.laid,H.new,λr hr b hb c t f hc=>H.hid r hr b hb c t f (H.sub.bE b c t f hc),H.apart,H.sub.trans H.data⟩
theorem Rel.ux(H:Rel w0 V0 own V w){i:Nat}{r:aN}{b:Nat}(hi:own[i]?=some r)(hr:r.at_=some b){w1:ae}(hs:dB [b] w w1):∃E,Rel E E (own.eraseIdx i) V w1:=by
 have hlt:=(cW.1 hi).1;have CS:=(cW.1 hi).2;have hmem:r∈own:=List.mem_of_getElem? hi;have dy:(own.eraseIdx i).Sublist own:=List.eraseIdx_sublist ..;have Hs:=H.sl dy;have hoth:∀x∈own.eraseIdx i,x.at_≠some b:=by
  intro x hx lJ;obtain⟨j,hj⟩:=List.mem_iff_getElem?.1 hx;rw[List.getElem?_eraseIdx]at hj;have hp:=List.pairwise_iff_getElem.1 H.apart;split at hj
  ·rename_i hji;obtain⟨gT,Ak⟩:=cW.1 hj;exact hp j i gT hlt hji b (by rw[Ak];exact lJ) (by rw[CS];exact hr)
  ·rename_i hji;obtain⟨gT,Ak⟩:=cW.1 hj;exact hp i (j+1) hlt gT aa b (by rw[CS];exact hr) (by rw[Ak];exact lJ)
 refine⟨{ w1 with heap:=#[] },⟨rfl,rfl,rfl,ai,λk hk=>by simp at hk⟩,⟨λc a t f hc=>by simp at hc⟩,λc hc=>by simp at hc,λx hx=>?_,λx hx c hc=>by simp,Hs.hid,Hs.apart,⟨λc a t f hc=>?_⟩⟩
 ·have hl:=Hs.laid x hx;refine aN.jC hl λc hc=>hs.block c (aN.lt hl hc) ?_;intro kP;rw[cv.1 kP]at hc;exact hoth x hx hc
 ·have h1:=H.data.bE c a t f hc;rw[hs.block c (jG.1 h1).1]
  ·exact h1
  ·intro kP;rw[cv.1 kP]at hc;exact H.hid r hmem b hr a t f hc
theorem Rel.uz(H:Rel w0 V0 own V w){i b o:Nat}{c l:aD}{t:TypeId}(hi:own[i]?=some (.ax b c t)){k:ae->Prop}(hk:fS c o l λc'=>∀w',Rel w0 V0 (own.set i (.ax b c' t)) V w'->k w') :
  ∃c t',nR w b c t'/\fS c o l λc'=>∀w',ma w b c' t' w'->dB [b] w w'/\k w':=by
 refine⟨c,t,(H.rM hi).f,?_⟩;have mono:∀(c:aD) (o:Nat) (l:aD) (k k':aD->Prop),(∀x,k x->k' x)->fS c o l k->fS c o l k':=by
  intro c;induction c with
  | nil=>intro o l k k' h hr;cases o<;>cases l<;>first|exact h _ hr|exact hr.elim
  | cons u c ih =>
   intro o l k k' h hr;cases o with
   | zero =>
    cases l with
    | nil=>exact h _ hr
    | cons v l=>exact ih 0 l _ _ (λx hx=>h _ hx) hr
   | succ o=>cases l<;>exact ih o _ _ _ (λx hx=>h _ hx) hr
 exact mono c o l _ _ (λc' hc' w' hu=>⟨dB.D5 (hu.D5 (H.rM hi)) ai,hc' w' (H.M4 hi (hu.D5 (H.rM hi)))⟩) hk
theorem Rel.BH(hT:bK P T){t ty e:TypeId}{d de:TD}(hd:T[t]?=some d)(hu:d.under=.slice e)(hde:T[e]?=some de){z:ao}(hz:de.zero=some z)(hzs:z.cells.size=de.size)(hsz:0<de.size)
  {s x:Sl} {xs ys:aD} (H:Rel w0 V0 own V w) (hs:Cells w s.a xs) (hsl:xs.length=s.len*de.size) (hsc:s.cap=s.len) (hx:Cells w x.a ys) (hxl:ys.length=x.len*de.size) (hx0:0<x.len) (hb:(s.len+x.len)*de.bytes<=140737488355328) (hm:s.len+x.len<=4611686018427387904)
  {k:ao->ae->Prop} (hk:∀s' w',Ext w w'->Rel w0 V0 (.row s' e de.size (xs++ys)::own) V w'->s'.len=s.len+x.len->k s'.v w'):bo P (Builtin.append_ #[t,t] ty #[s.v,x.v]) w k:=by
 have tI:=hT t d hd;have sd:=hT e de hde;obtain⟨i,hi,lF,oe,hi3⟩:=sd.info;have ht:P.underlying t=some (.slice e):=by
  obtain⟨d0,q1,q2⟩:=tI.under;rw[hu]at q2;cases d0<;>first|(simp_all[c8];done)|(simp only[c8]at q2;split at q2<;>cases q2)
 have pD:ys≠[]:=by
  intro e;subst e;have:0<x.len*de.size:=Lm aa hsz;simp at hxl;omega
 have hpl:=hx.1 pD;have hnews:∀j v,ys[j]?=some v->w.cell? ((⟨bD x.a,bw x.a,none⟩:Addr).add j)=some v:=λj v hj=>by rw[addr_add];exact hx.2 j v hj
 have sv:x.v=.slice (some ⟨bD x.a,bw x.a,none⟩) x.len x.cap:=by
  show Value.slice x.a x.len x.cap=_;conv=>lhs;rw[hpl]
 have mC:i.size=de.size:=lF;have vf:i.bytes=de.bytes:=oe;rw[sv];have mo:∀old,grownCap w (s.len+x.len) old e<=maxLen:=λold=>grownCap_le_maxLen w _ old e (by simp only[maxLen];omega);have kT:∀old,s.len+x.len<=grownCap w (s.len+x.len) old e:=λold=>grownCap_ge w _ old e;have hlen:(xs++ys).length=(s.len+x.len)*de.size:=by rw[aq,hsl,hxl,uc]
 have fresh:∀old,k (.slice (some ⟨w.heap.size,0,none⟩) (s.len+x.len) (grownCap w (s.len+x.len) old e))
   (w.drew.alloc (.cells (xs.toArray++ys.toArray++Builtin.zeroCells z.cells (grownCap w (s.len+x.len) old e-(s.len+x.len))) e)):=by
  intro old
  have xI:Ext w (w.drew.alloc (.cells (xs.toArray++ys.toArray++Builtin.zeroCells z.cells (grownCap w (s.len+x.len) old e-(s.len+x.len))) e)) :=
   ⟨rfl,rfl,rfl,ai,λc hc=>heap_alloc_old w.drew _ c hc⟩
  refine hk ⟨some ⟨w.heap.size,0,none⟩,s.len+x.len,grownCap w (s.len+x.len) old e⟩ _ xI (H.more xI ?_ λb hb=>?_) rfl
  ·refine⟨hlen,.inr ⟨w.heap.size,_,rfl,⟨(0,0),heap_alloc_new w.drew _,.zero _⟩,kT old,mo old,?_,?_⟩⟩
   ·simp only[Array.size_append,List.size_toArray,size_zeroCells,hzs,hsl,hxl,<-uc];congr 1;have:=kT old;omega
   ·simp only[Array.toList_append,bJ];rw[<-bJ,<-hlen];exact List.take_left
  ·simp only[aN.at_,Option.map_some,Option.some.injEq]at hb;omega
 cases tR:s.a with
 | none =>
  have pC:xs=[]:=qU λhne=>by
   have:=hs.1 hne;rw[tR]at this;simp[Plain]at this
  subst pC;have h2:s.len=0:=by
   rcases Nat.eq_zero_or_pos s.len with h|h
   ·exact h
   ·have:=Lm h hsz;simp at hsl;omega
  have gK:x.len*de.bytes<=140737488355328:=by rw[h2,dU]at hb;exact hb
  have dS:=run_append_nil (P:=P) w t ty e i z ht hi (hi3.trans hz) ⟨bD x.a,bw x.a,none⟩ x.len x.cap ys (by rw[hxl,mC]) hnews aa aa (by rw[vf];omega);have hf:=fresh 0;simp only[h2,dU,Array.empty_append]at hf;have mB:s.v=.slice none 0 0:=by show Value.slice s.a s.len s.cap=_;rw[tR,hsc,h2]
  rw[mB];exact .of dS hf
 | some a =>
  have mB:s.v=.slice (some a) s.len s.cap:=by show Value.slice s.a s.len s.cap=_;rw[tR]
  rw[mB];have holds:∀j v,xs[j]?=some v->w.cell? (a.add j)=some v:=λj v hj=>by
   have hne:xs≠[]:=by intro e;subst e;simp at hj
   have hp:=hs.1 hne;rw[tR]at hp;have h2:=hs.2 j v hj;rw[tR]at h2;have ha:a=⟨bD (some a),bw (some a),none⟩:=Option.some.inj hp;rw[ha,addr_add];exact h2
  have dS:=run_append_grow (P:=P) w t ty e i z ht hi (hi3.trans hz) a s.len s.cap xs (by rw[hsl,mC]) holds ⟨bD x.a,bw x.a,none⟩ x.len x.cap ys (by rw[hxl,mC]) hnews aa aa (growslice_fits aa (by rw[vf];exact hb));exact .of dS (fresh s.cap)
end
abbrev aE(b:UInt8):aD:=[bv b]
abbrev ay:=aB aE
theorem fc(l:ad):l.flatMap aE=l.map bv:=by induction l<;>simp_all
theorem By.slf(h:By V s l):ay V s l:=⟨h.len,h.cap,by rw[fc];exact h.cells⟩
theorem Rel.bA{w0 V0:ae}{own:bU}{b:Nat}{c c':aD}{t:TypeId}(H:Rel w0 V0 (.ax b c t::own) V w)(h:c=c'):Rel w0 V0 (.ax b c' t::own) V w:=h▸H
theorem qm(h:n<256){x:Int}(hx:x=n):[Value.int .u8 x]=aE (UInt8.ofNat n):=by
 subst hx;simp only[aE,bv,cH h]
theorem EU:∀u∈l.flatMap aE,u.oneCell'=true:=by
 intro u hu;obtain⟨x,_,hx⟩:=List.mem_flatMap.1 hu;rw[cv.1 hx];rfl
section
variable{w0 V0 V w:ae}{own:bU}
theorem Rel.eJ{x:Sl}(H:Rel w0 V0 own V w)(hi:own[i]?=some (.row s 5 1 (xs.flatMap aE)))(hx:ay V x ys)(hb:xs.length+ys.length<=1099511627776){ty:TypeId}{k:ao->ae->Prop}
  (hk:∀s' w',Rel w0 V0 (own.set i (.row s' 5 1 ((xs++ys).flatMap aE))) V w'->k s'.v w'):bo Tryz.prog (Builtin.append_ #[22,22] ty #[s.v,x.v]) w k:=by
 have hl:=H.gn hi (λ_=>rfl) ag;have hxl:=hx.len;refine Rel.BG ah rfl rfl rfl rfl rfl ag H hi (hx.up H.data).cells (by rw[pf (n:=1) (λ_=>rfl),hxl]) EU (by rw[hl,hxl];simp;omega) (by rw[hl,hxl];omega) ?_;intro s' w' H' _;refine hk s' w' ?_;rw[bT];exact H'
theorem Rel.dD{x:Sl}(H:Rel w0 V0 (.row x 5 1 (ys.flatMap aE)::own) V w)(hi:own[i]?=some (.row s 5 1 (xs.flatMap aE)))(hb:xs.length+ys.length<=1099511627776){ty:TypeId}{k:ao->ae->Prop}
  (hk:∀s' w',Rel w0 V0 (own.set i (.row s' 5 1 ((xs++ys).flatMap aE))) V w'->k s'.v w'):bo Tryz.prog (Builtin.append_ #[22,22] ty #[s.v,x.v]) w k:=by
 have hl:=H.w9.gn hi (λ_=>rfl) ag;have hxl:=H.gn (i:=0) rfl (λ_=>rfl) ag;have hc:=(H.rowAt (i:=0) rfl).cells;refine Rel.BG ah rfl rfl rfl rfl rfl ag H (i:=i+1) (by simpa using hi) hc (by rw[pf (n:=1) (λ_=>rfl),hxl]) EU (by rw[hl,hxl];simp;omega) (by rw[hl,hxl];omega) ?_;intro s' w' H' _;refine hk s' w' ?_;rw[bT];exact Rel.w9 (by simpa using H')
end
section
variable{V W:ae}
theorem iQ(hV:Sub V W){n:Int}(hn:dx n):aC 196 [iv n] W λv w'=>∃r:Sl,v=r.v/\Rel W V [.row r 5 1 ((aM n).flatMap aE)] V w':=by
 have H:=Rel.start hV;have hlen:=fj hn.1 hn.2;have hz:=aiR hn;have ov:=HD hn.1 hn.2;refine eV Tryz.func196 27 [0,2,3,4,13] ?_;refine wk ?_;replace H:=H.cb 5 1;refine aY (S:=Nat×Sl×ad) ah [0,2] (λk=>[(3,.int .u64 k.1),(4,k.2.1.v)]) (λk w'=>k.1<18446744073709551616/\k.2.2++nI k.1=aM n/\Rel W V [.row k.2.1 5 1 (k.2.2.flatMap aE)] V w') (λk _=>k.1) (zz n,⟨none,0,0⟩,[]) ?_;conv=>whnf
 refine⟨⟨congrArg (λz=>some (Value.int .u64 z)) hz,rfl,trivial⟩,⟨ov,rfl,H.sx⟩,?_⟩;clear H;rintro⟨u,r,o⟩w⟨hu,ho,H⟩;dsimp only at hu ho H;have gV:=congrArg List.length ho;have hpl:=pM u;simp only[aq]at gV;by_cases h128:u<128
 ·rw[AR h128]at ho;have hb:(u:Int)%256=(u:Nat):=aa;refine H.wg ?_;clear H;intro _ w H;refine Rel.dC (f:=aE) (x:=UInt8.ofNat u) ah rfl rfl rfl rfl rfl ag (λ_=>rfl) (by simp[Value.oneCell']) (H.bA (qm (n:=u) aa hb)) (by simp;omega) aa ?_;clear H;intro rn w H;refine wk ?_;exact⟨rn,rfl,by rw[<-ho];exact H⟩
 ·rw[Ge h128]at ho;have hb:bN .or .u8 ((u:Int)%256) 128=((u%128+128:Nat):Int):=by
   have:=adw (x:=u%256) aa;rw[show((u%256:Nat):Int)=(u:Int)%256 by omega]at this;rw[this];omega
  refine H.wg ?_;clear H;intro _ w H;refine Rel.dC (f:=aE) (x:=UInt8.ofNat (u%128+128)) ah rfl rfl rfl rfl rfl ag (λ_=>rfl) (by simp[Value.oneCell']) (H.bA (qm (n:=u%128+128) aa hb)) (by simp;omega) aa ?_;clear H;intro rn w H;refine wk ?_;refine⟨sB,(u/128,rn,o++[UInt8.ofNat (u%128+128)]),⟨rfl,rfl,trivial⟩,⟨by dsimp only;omega,by simpa using ho,H.sx⟩,by dsimp only;omega⟩
theorem zF(hV:Sub V W){x:Sl}{b:ad}(hx:ay V x b)(hl:b.length<=1099511627000):aC 227 [x.v] W λv w'=>∃r:Sl,v=r.v/\Rel W V [.row r 5 1 ((cP b).flatMap aE)] V w':=by
 have H:=Rel.start hV;have hxl:=hx.len;have hp:=fj (n:=b.length) aa aa;refine eV Tryz.func227 8 [0,2] ?_;refine wk ?_;rw[hxl];refine(iQ (n:=b.length) H.data (by constructor<;>omega)).use ?_;rintro v w⟨r,rfl,K⟩;replace H:=H.call K;refine wk ?_;refine Rel.eJ H (i:=0) rfl hx aa ?_;clear H;intro rn w H;refine wk ?_;exact⟨rn,rfl,H⟩
theorem NP(hV:Sub V W){x y:Sl}{a b:ad}(hx:ay V x a)(hy:ay V y b):aC 15 [x.v,y.v] W λv w'=>v=.bool (decide (a=b))/\Rel W V [] V w':=by
 have H:=Rel.start hV;have h1:=hx.len;have h2:=hy.len;have tH:Cells W x.a (a.map bv):=fc a▸(hx.up hV).cells;have hcy:Cells W y.a (b.map bv):=fc b▸(hy.up hV).cells;refine eV Tryz.func15 10 [0,1,4] ?_;refine wk ?_;exact H
abbrev cK(z:Int):aD:=[iv z]
theorem aB.aX{f:α->aD}{l:List α}(h:aB f V s l){g:α->ao}(hf:∀x,f x=[g x]){i:Nat}(hi:i<l.length):Plain s.a/\V.cell? ⟨bD s.a,bw s.a+i,none⟩=some (g l[i]):=by
 obtain⟨h1,h2⟩:=h.get (n:=1) (λx=>by rw[hf];rfl) aa hi;refine⟨h1,?_⟩;have:=h2 0 (g l[i]) (by rw[hf];rfl);simpa using this
end
abbrev kg(c i:Int):ao:=.agg #[iv c,iv i]
def E0{α:Type}(A:α->ao)(z:α):gH α->ao
 | .ok x q=>.tuple #[A x,iv q,.agg #[iv 0,iv 0]]
 | .bad c i=>.tuple #[A z,iv 0,.agg #[iv c,iv i]]
theorem aaf{u:Nat}{c:UInt8}{r:ad}(hl:l=c::r)(hs:¬((i=9/\1<c.toNat)\/(0<i/\c.toNat=0)))(hc:¬c.toNat<128){X:Np}
  (h:X=match iK i l with|.ok u' k=>.ok (u+2^(7*i)*u') (i+k)|e=>e):X=match iK (i+1) r with|.ok u' k=>.ok (u+c.toNat%128*2^(7*i)+2^(7*(i+1))*u') (i+1+k)|e=>e:=by
 subst hl;rw[h];simp only[iK,if_neg hs,if_neg hc];cases iK (i+1) r with
 | ok u' k =>
  simp only;congr 1
  ·rw[show 7*(i+1)=7*i+7 by omega,LI,Nat.mul_add,<-Nat.mul_assoc,mM (c.toNat%128),show(2:Nat)^7=128 from rfl];omega
  ·omega
 | _=>rfl
section
variable{V W:ae}
theorem tt(hV:Sub V W)(c i:Int):aC 269 [iv c,iv i] W λv w'=>v=.agg #[iv c,iv i]/\Rel W V [] V w':=by
 have H:=Rel.start hV;refine eV Tryz.func269 8 [0,1,4] ?_;refine H.wg ?_;clear H;intro _ _ w H;exact H.sx
theorem mN(hV:Sub V W){s:Sl}{l:ad}(hs:ay V s l)(hl:l.length<=1099511627776){p:Nat}(hp:p<=l.length):aC 200 [s.v,iv p] W λv w'=>v=E0 iv 0 (cD l p)/\Rel W V [] V w':=by
 have H:=Rel.start hV;have hlen:=hs.len;refine eV Tryz.func200 76 [0,1,4,5,6,7,8,9,17,19,20,27,49,59] ?_;refine wk ?_;refine H.nA ?_;clear H;intro w b6 H;refine wk ?_;refine aY (S:=Nat×Nat) ah [0,1,6,17] (λk=>[(7,.int .u64 k.2),(19,iv k.1)]) (λk w'=>k.1<=9/\p+k.1<=l.length/\k.2<2^(7*k.1)/\(iK 0 (l.drop p)=match iK k.1 (l.drop (p+k.1))with|.ok u' m=>.ok (k.2+2^(7*k.1)*u') (k.1+m)|e=>e)/\Rel W V [.ax b6 [iv 0,iv 0] 31] V w') (λk _=>10-k.1) (0,0) ?_;conv=>whnf
 refine⟨sB,⟨aa,aa,ai,by simp;cases iK 0 (l.drop p)<;>simp,H.sx⟩,?_⟩;clear H;rintro⟨i,u⟩w⟨hi,hpi,hu,hg,H⟩;dsimp only at hi hpi hu hg H;by_cases QB:p+i=l.length
 ·have hb:cD l p=.bad 15 p:=by
   rw[cD,hg,pW aa];rfl
  rw[hb];refine wk ?_;refine(tt H.data 15 p).use ?_;rintro v w⟨rfl,K⟩;replace H:=H.call K;simp only[aA]at H;refine H.wg ?_;clear H;intro w H;exact H.sx
 have hlt:p+i<l.length:=aa;obtain⟨hpl,hq⟩:=hs.aX (g:=bv) (λ_=>rfl) hlt;have jS:l.drop (p+i)=l[p+i]::l.drop (p+i+1):=j4 hlt;have Ah:=(l[p+i]).toNat_lt;have qJ:V.cell? ⟨bD s.a,bw s.a+((p:Int)+(i:Int)).toNat,none⟩=some (bv l[p+i]):=by rw[show((p:Int)+(i:Int)).toNat=p+i by omega];exact hq
 have hst:7*(i:Int)=((7*i:Nat):Int):=aa;by_cases hsy:(i=9/\1<l[p+i].toNat)\/(0<i/\l[p+i].toNat=0)
 ·have hb:cD l p=.bad 1 p:=by
   rw[cD,hg,jS,iK,if_pos hsy]
  rw[hb];have key:∀ {F:Prop},F->F:=λh=>h;by_cases h9:i=9/\1<l[p+i].toNat
  ·obtain⟨h9a,h9b⟩:=h9;refine wk ?_;refine(tt H.data 1 p).use ?_;rintro v w⟨rfl,K⟩;replace H:=H.call K;simp only[aA]at H;refine H.wg ?_;clear H;intro w H;exact H.sx
  ·obtain⟨h0a,h0b⟩:=hsy.resolve_left h9;by_cases xK:i=9
   all_goals
    refine wk ?_;refine(tt H.data 1 p).use ?_;rintro v w⟨rfl,K⟩;replace H:=H.call K;simp only[aA]at H;refine H.wg ?_;clear H;intro w H;exact H.sx
 have JX:i=9->l[p+i].toNat<=1:=λh=>by
  rcases Nat.lt_or_ge 1 l[p+i].toNat with h1|h1
  ·exact absurd (.inl ⟨h,h1⟩) hsy
  ·exact h1
 have hn0:0<i->l[p+i].toNat≠0:=λh h1=>hsy (.inr ⟨h,h1⟩);have hpw:2^(7*(i+1))=128*2^(7*i):=by rw[show 7*(i+1)=7*i+7 by omega,LI,mM]
 have Rq:l[p+i].toNat%128*2^(7*i)<18446744073709551616:=by
  by_cases h:i=9
  ·have:=JX h;have h2:l[p+i].toNat%128<=1:=aa;have h3:=iD (2^(7*i)) h2;have h4:2^(7*i)<=2^63:=AY ag aa;simp only[Nat.reducePow]at h4;omega
  ·have h2:l[p+i].toNat%128<=127:=aa;have h3:=iD (2^(7*i)) h2;have h4:2^(7*i)<=2^56:=AY ag aa;simp only[Nat.reducePow]at h4;omega
 have abx:u<18446744073709551616:=by
  have h4:2^(7*i)<=2^63:=AY ag aa;simp only[Nat.reducePow]at h4;omega
 obtain⟨U,hU⟩:∃U,U=u+l[p+i].toNat%128*2^(7*i):=⟨_,rfl⟩
 have iN:bN .or .u64 (((i,u):Nat×Nat).snd:Int) (wr .u64 (wr .u64 (bN .and .u8 (l[p+i].toNat:Int) 127)*2^min (7*(((i,u):Nat×Nat).fst:Int)).toNat IntKind.u64.bits))=(U:Int):=by
  have e1:min (7*(((i,u):Nat×Nat).fst:Int)).toNat IntKind.u64.bits=7*i:=by
   show min (7*(i:Int)).toNat 64=7*i;omega
  rw[e1,Xl aa,hU,<-vE hu Rq abx];congr 1;have e2:wr .u64 ((l[p+i].toNat%128:Nat):Int)=((l[p+i].toNat%128:Nat):Int):=by
   simp only[wr];omega
  rw[e2,Ec];have:=Ed Rq;rw[<-this];simp
 by_cases hc:l[p+i].toNat<128
 ·have gd:iK 0 (l.drop p)=.ok U (i+1):=by
   rw[hg,jS,iK,if_neg hsy,if_pos hc];simp only;rw[hU,Nat.mod_eq_of_lt hc,mM]
  have Ct:U<18446744073709551616:=by simpa using(Li _ 0 _ _ aa gd).2.2.1
  have hres:cD l p=.ok (rF U) (p+(i+1)):=by rw[cD,gd]
  have hd:(U:Int)/2^min (Int.toNat 1) IntKind.u64.bits=((U/2:Nat):Int):=by
   show(U:Int)/2=_;omega
  have hz:=ah7 Ct;have ajs:=VO Ct;rw[hres];by_cases xK:i=9
  ·have h1:=JX xK;have h2:=hn0 aa;refine wk ?_;rw[iN,hd];refine wk ?_;rw[HR Ct];refine H.wg ?_;clear H;intro w H;rw[hz];refine⟨?_,H.sx⟩;simp only[E0];congr 4
  ·by_cases py:0<i
   ·have h2:=hn0 py;refine wk ?_;rw[iN,hd];refine wk ?_;rw[HR Ct];refine H.wg ?_;clear H;intro w H;rw[hz];refine⟨?_,H.sx⟩;simp only[E0];congr 4
   ·refine wk ?_;rw[iN,hd];refine wk ?_;rw[HR Ct];refine H.wg ?_;clear H;intro w H;rw[hz];refine⟨?_,H.sx⟩;simp only[E0];congr 4
 ·have xK:¬i=9:=λh=>by have:=JX h;omega
  have hnext:=aaf jS hsy hc hg;by_cases py:0<i
  ·have h2:=hn0 py;refine wk ?_;refine⟨sB,(i+1,U),⟨congrArg (λz=>some (Value.int .u64 z)) iN,rfl,trivial⟩,⟨aa,aa,?_,?_,H.sx⟩,aa⟩
   ·show U<2^(7*(i+1));rw[hpw,hU];have:=iD (2^(7*i)) (show l[p+i].toNat%128<=127 by omega);omega
   ·show iK 0 (l.drop p)=match iK (i+1) (l.drop (p+(i+1)))with|.ok u' m=>.ok (U+2^(7*(i+1))*u') (i+1+m)|e=>e
    rw[hU];exact hnext
  ·refine wk ?_;refine⟨sB,(i+1,U),⟨congrArg (λz=>some (Value.int .u64 z)) iN,rfl,trivial⟩,⟨aa,aa,?_,?_,H.sx⟩,aa⟩
   ·show U<2^(7*(i+1));rw[hpw,hU];have:=iD (2^(7*i)) (show l[p+i].toNat%128<=127 by omega);omega
   ·show iK 0 (l.drop p)=match iK (i+1) (l.drop (p+(i+1)))with|.ok u' m=>.ok (U+2^(7*(i+1))*u') (i+1+m)|e=>e
    rw[hU];exact hnext
structure Bz{α β:Type}(A:β->ao)(R:ae->β->α->Prop)(W V:ae)(res:gH α)(v:ao)(w':ae):Prop where
 ex:∃(V':ae) (x:β) (n c i:Int),Sub V V'/\Rel W V [] V' w'/\v=.tuple #[A x,iv n,.agg #[iv c,iv i]]/\(match res with|.bad c' i'=>c=c'/\i=i'/\c'≠0|.ok y q=>c=0/\i=0/\n=q/\R V' x y)
structure WE(W V:ae)(res:gH ad)(v:ao)(w':ae):Prop where
 ex:∃(V':ae) (x:Sl) (ys:ad) (n c i:Int),Sub V V'/\Rel W V [] V' w'/\v=.tuple #[x.v,iv n,.agg #[iv c,iv i]]/\ay V' x ys/\(match res with|.bad c' i'=>c=c'/\i=i'/\c'≠0|.ok y q=>c=0/\i=0/\n=q/\ys=y)
theorem mH{p:Nat}{c i:Int}(h:cD l p=.bad c i):c≠0:=by
 obtain⟨h,_⟩:=adm h;omega
theorem T3(hV:Sub V W){s:Sl}{l:ad}(hs:ay V s l)(hl:l.length<=1099511627776){p:Nat}(hp:p<=l.length):aC 280 [s.v,iv p] W (WE W V (kJ l p)):=by
 have H:=Rel.start hV;have hlen:=hs.len;have mo:=hs.cap;refine eV Tryz.func280 47 [0,1,4,5,6,7,8,9,17,22,27] ?_;refine wk ?_;refine H.nA ?_;clear H;intro w b6 H;refine wk ?_;refine(mN H.data hs hl hp).use ?_;rintro v w⟨rfl,K⟩;replace H:=H.call K;simp only[aA]at H;cases hn:cD l p with
 | bad c i =>
  have dR:=mH hn;have hr:kJ l p=.bad c i:=by rw[kJ,hn]
  rw[hr];refine wk ?_;refine H.nA ?_;clear H;intro w b9 H;refine H.wg ?_;clear H;intro w H;refine dV 3 [] [0,1,2,3] H ?_;clear H;intro w H;refine H.wg ?_;clear H;intro w H;exact⟨V,⟨none,0,0⟩,[],0,c,i,Sub.refl _,H.sx,rfl,aB.nil _ _,rfl,rfl,dR⟩
 | ok n q =>
  obtain⟨h1,h2,h3,h4,h5⟩:=eX hp hn;by_cases hn0:n<0
  ·have hr:kJ l p=.bad 4 p:=by rw[kJ,hn];simp only;rw[if_pos hn0]
   rw[hr];refine wk ?_;refine H.nA ?_;clear H;intro w b9 H;refine H.wg ?_;clear H;intro w H;refine(tt H.data 4 p).use ?_;rintro v w⟨rfl,K⟩;replace H:=H.call K;simp only[aA]at H;refine H.wg ?_;clear H;intro w H;exact⟨V,⟨none,0,0⟩,[],0,4,p,Sub.refl _,H.sx,rfl,aB.nil _ _,rfl,rfl,ag⟩
  by_cases vo:(l.length:Int)-q<n
  ·have hr:kJ l p=.bad 15 p:=by rw[kJ,hn];simp only;rw[if_neg hn0,if_pos vo]
   rw[hr];refine wk ?_;refine H.nA ?_;clear H;intro w b9 H;refine H.wg ?_;clear H;intro w H;refine(tt H.data 15 p).use ?_;rintro v w⟨rfl,K⟩;replace H:=H.call K;simp only[aA]at H;refine H.wg ?_;clear H;intro w H;exact⟨V,⟨none,0,0⟩,[],0,15,p,Sub.refl _,H.sx,rfl,aB.nil _ _,rfl,rfl,ag⟩
  have hr:kJ l p=.ok ((l.drop q).take n.toNat) (q+n.toNat):=by rw[kJ,hn];simp only;rw[if_neg hn0,if_neg vo]
  rw[hr];obtain⟨m,rfl⟩:∃m:Nat,n=m:=⟨n.toNat,aa⟩
  simp only[e8];have dy:=hs.sub (n:=1) (λ_=>rfl) (a:=q) (b:=q+m) aa aa;have Ae:(l.take (q+m)).drop q=(l.drop q).take m:=by rw[List.drop_take,Nat.add_sub_cancel_left]
  rw[Ae]at dy;refine wk ?_;refine H.nA ?_;clear H;intro w b9 H;refine H.wg ?_;clear H;intro w H;replace H:=H.cb 5 1;refine Rel.eJ (s:=⟨none,0,0⟩) (x:=⟨aU s.a q s.cap 1,q+m-q,s.cap-q⟩) (xs:=[]) (ys:=(l.drop q).take m) H (i:=0) rfl dy (by simp;omega) ?_;clear H;intro rn w H;refine H.wg ?_;clear H;intro w H;rw[aA]at H;obtain⟨V1,hV1,H,hrn⟩:=Rel.aT H (λ_=>rfl) ag;exact⟨V1,rn,_,_,0,0,hV1,H.sx,rfl,hrn,rfl,rfl,aa,rfl⟩
end
abbrev at8(l:ad)(i:Nat):Nat:=(l[i]?.getD 0).toNat
theorem rL(h:i<l.length):at8 l i=l[i].toNat:=by simp[at8,h]
section
inductive ar where
 | mk (kind num:Int) (bytes:ad) (names:bg) (parts:List ar)
namespace ar
abbrev kind:ar->Int|.mk k _ _ _ _=>k
abbrev num:ar->Int|.mk _ n _ _ _=>n
abbrev bytes:ar->ad|.mk _ _ b _ _=>b
abbrev names:ar->bg|.mk _ _ _ s _=>s
abbrev parts:ar->List ar|.mk _ _ _ _ p=>p
end ar
instance:Inhabited ar:=⟨.mk 0 0 [] [] []⟩
theorem ar.eta(v:ar):v=.mk v.kind v.num v.bytes v.names v.parts:=by cases v;rfl
theorem ar.vF{v p:ar}(h:p∈v.parts):SizeOf.sizeOf p<SizeOf.sizeOf v:=by
 cases v;have:=Lr h;simp only[ar.mk.sizeOf_spec];simp only[ar.parts]at this;omega
def ig(v:ar):Prop:=(v.num≠0/\v.kind≠1)\/(0<v.bytes.length/\v.kind≠2)\/(0<v.names.length/\v.kind≠4)\/(0<v.parts.length/\v.kind<3)\/(v.kind=4/\v.names.length≠v.parts.length)
instance(v:ar):Decidable (ig v):=by unfold ig;infer_instance
def fG(v:ar):Int :=
 if ¬(1<=v.kind/\v.kind<=4)then 5 else if ig v then 6 else if 600<v.parts.length then 14 else if v.names.any (λs=>!gx s)=true then 7 else if ¬v.names.Nodup then 8 else 0
def kH(v:ar)(n d:Nat):Int:=if 600<=n\/10<=d then 2 else fG v
def pre(d:Nat):ar->List (ar×Nat)
 | .mk k n b s ps=>(.mk k n b s ps,d)::(if 10<d then[]else(ps.attach.map λp=>pre (d+1) p.1).take 601).flatten
decreasing_by
 have:=Lr p.2
 simp only[ar.mk.sizeOf_spec]
 omega
theorem Dw(d:Nat)(v:ar):pre d v=(v,d)::(if 10<d then[]else((v.parts.take 601).flatMap (pre (d+1)))):=by
 cases v with
 | mk k n b s ps =>
  rw[pre];simp only[ar.parts];congr 1;split
  ·rfl
  ·rw[List.flatMap_def,List.map_take];congr 2;simp[List.map_attach_eq_pmap]
def scan:List (ar×Nat)->Nat->Except (Int×Int) Nat
 | [],n=>.ok n
 | (v,d)::r,n=>if kH v n d≠0 then .error (kH v n d,n)else scan r (n+1)
theorem GV:∀(a b:List (ar×Nat)) (n:Nat),scan (a++b) n=match scan a n with
  | .ok m=>scan b m
  | .error e=>.error e
 | [],b,n=>rfl
 | (v,d)::a,b,n=>by
  simp only[aL,scan];split
  ·rfl
  ·exact GV a b (n+1)
def fe(d:Nat):ar->Nat->Except (Int×Int) Nat:=λv n=>scan (pre d v) n
def nc(d:Nat)(ps:List ar)(n:Nat):Except (Int×Int) Nat:=scan (ps.flatMap (pre d)) n
theorem Yj(d:Nat)(ps:List ar)(p:ar)(n:Nat):nc d (ps++[p]) n=match nc d ps n with
  | .ok m=>fe d p m
  | .error e=>.error e:=by
 unfold nc fe;rw[bT,GV];simp
theorem nB{v:ar}(h:fG v=0):(1<=v.kind/\v.kind<=4)/\¬ig v/\v.parts.length<=600/\(∀s∈v.names,gx s=true)/\v.names.Nodup:=by
 unfold fG at h;split at h
 ·cases h
 ·rename_i h1;split at h
  ·cases h
  ·rename_i h2;split at h
   ·cases h
   ·rename_i h3;split at h
    ·cases h
    ·rename_i h4;split at h
     ·cases h
     ·rename_i h5;refine⟨qV.1 h1,h2,aa,λs hs=>?_,qV.1 h5⟩;simp only[List.any_eq_true,A7]at h4;exact qU λhn=>h4 ⟨s,hs,by simpa using hn⟩
theorem BR(d:Nat)(v:ar)(n:Nat):fe d v n=if kH v n d≠0 then .error (kH v n d,n)else nc (d+1) v.parts (n+1):=by
 unfold fe;rw[Dw];simp only[scan];split
 ·rfl
 ·rename_i h;have h:=qV.1 h;unfold kH at h;split at h
  ·cases h
  ·rename_i h1;obtain⟨_,_,h2,_⟩:=nB h;rw[if_neg aa,bR aa];rfl
theorem GW:∀(l:List (ar×Nat)) (n m:Nat),scan l n=.ok m->m=n+l.length/\∀i v d,l[i]?=some (v,d)->kH v (n+i) d=0
 | [],n,m,h=>by
  simp only[scan]at h;cases h;simp
 | (v,d)::l,n,m,h=>by
  simp only[scan]at h;split at h
  ·cases h
  ·rename_i h1;obtain⟨h2,h3⟩:=GW l (n+1) m h;refine⟨by simp;omega,λi v' d' hi=>?_⟩;cases i with
   | zero =>
    simp at hi;obtain⟨rfl,rfl⟩:=hi;exact qV.1 h1
   | succ i =>
    simp at hi;have:=h3 i v' d' hi;rwa [show n+(i+1)=n+1+i by omega]
inductive VB(B:Nat):ar->Prop where
 | mk {v:ar}:dx v.kind->dx v.num->v.bytes.length<=B->v.names.length<=B->(∀s∈v.names,s.length<=B)->v.parts.length<=B->(∀p∈v.parts,VB B p)->VB B v
theorem VB.kind{B:Nat}{v:ar}:VB B v->dx v.kind|.mk h _ _ _ _ _ _=>h
theorem VB.num{B:Nat}{v:ar}:VB B v->dx v.num|.mk _ h _ _ _ _ _=>h
theorem VB.bytes{B:Nat}{v:ar}:VB B v->v.bytes.length<=B|.mk _ _ h _ _ _ _=>h
theorem VB.names{B:Nat}{v:ar}:VB B v->v.names.length<=B|.mk _ _ _ h _ _ _=>h
theorem VB.name{v:ar}:VB B v->∀s∈v.names,s.length<=B|.mk _ _ _ _ h _ _=>h
theorem VB.parts{B:Nat}{v:ar}:VB B v->v.parts.length<=B|.mk _ _ _ _ _ h _=>h
theorem VB.part{v:ar}:VB B v->∀p∈v.parts,VB B p|.mk _ _ _ _ _ _ h=>h
def enc:ar->ad
 | .mk k n b s ps=>aM k++(if k=1 then aM n else if k=2 then cP b else aM ps.length++ps.attach.zipIdx.flatMap λp=>(if k=4 then cP (s.getD p.2 [])else[])++enc p.1.1)
decreasing_by
 have:=Lr p.1.2
 simp only[ar.mk.sizeOf_spec]
 omega
def lC(k:Int)(s:bg)(ps:List ar):ad:=ps.zipIdx.flatMap λp=>(if k=4 then cP (s.getD p.2 [])else[])++enc p.1
theorem B5(v:ar):enc v=aM v.kind++(if v.kind=1 then aM v.num else if v.kind=2 then cP v.bytes else aM v.parts.length++lC v.kind v.names v.parts):=by
 cases v with
 | mk k n b s ps =>
  rw[enc];simp only[ar.parts];congr 1;split
  ·rfl
  ·split
   ·rfl
   ·congr 1;unfold lC;conv=>rhs;rw[<-List.attach_map_subtype_val ps,List.zipIdx_map,List.flatMap_map]
    rfl
theorem Zl(k:Int)(s:bg):lC k s []=[]:=rfl
theorem Pe(k:Int)(s:bg)(ps:List ar)(p:ar):lC k s (ps++[p])=lC k s ps++((if k=4 then cP (s.getD ps.length [])else[])++enc p):=by
 unfold lC;rw[List.zipIdx_append,bT];simp
def AB(v:ar):Nat:=if v.kind=1 then 1+(aM v.num).length else if v.kind=2 then 1+(cP v.bytes).length else 1+(aM v.parts.length).length+(v.names.map λs=>1+s.length).sum
def adb(v:ar):Nat:=if v.kind=1 then 1+(aM v.num).length else if v.kind=2 then(if 4000<v.bytes.length then 4001 else 1+(cP v.bytes).length)else 1+(aM v.parts.length).length+(v.names.map λs=>1+s.length).sum
def nN(l:List (ar×Nat)):Nat:=(l.map λp=>AB p.1).sum
def sz(l:List (ar×Nat)):Nat:=(l.map λp=>adb p.1).sum
theorem Ta(b:ad):b.length<=(cP b).length:=by simp[cP]
theorem ag6(a b:List (ar×Nat)):nN (a++b)=nN a+nN b:=by simp[nN]
theorem Td{n:Int}(h0:0<=n)(h:n<64):(aM n).length=1:=by
 unfold aM zz;rw[if_pos h0,AR aa];rfl
theorem Dk{s:ad}(h:gx s=true):s.length<=32:=by
 unfold gx at h;simp at h;omega
theorem aeg{s:ad}(h:gx s=true):(cP s).length=1+s.length:=by
 have:=Dk h;rw[cP,aq,Td aa aa]
theorem NW{d m:Nat}{p:ar}{ps:List ar}(h:nc d (p::ps) n=.ok m):∃k,fe d p n=.ok k/\nc d ps k=.ok m:=by
 unfold nc at h;rw[bz,GV]at h;split at h
 ·rename_i k hk;exact⟨k,hk,h⟩
 ·cases h
theorem Pd{k:Int}{s:bg}:∀(ps:List ar) (i:Nat),(k=4->i+ps.length<=s.length/\∀x∈s,gx x=true) ->
  ((ps.zipIdx i).flatMap λp=>(if k=4 then cP (s.getD p.2 [])else[])++enc p.1).length=(ps.map λp=>(enc p).length).sum+(if k=4 then((s.drop i).take ps.length).map (λx=>1+x.length)else[]).sum
 | [],i,_=>by simp
 | p::ps,i,h=>by
  have ih:=Pd ps (i+1) (λhk=>by have:=h hk;simp at this;exact⟨aa,this.2⟩);simp only[List.zipIdx_cons,bz,aq,fq,pR,ih];by_cases hk:k=4
  ·obtain⟨h1,h2⟩:=h hk;simp only[av]at h1;have hi:i<s.length:=aa;have hn:=h2 _ (cj hi);rw[if_pos hk,if_pos hk,if_pos hk,j4 hi];simp only[av,A6,fq,pR];have:s.getD i []=s[i]:=by simp[List.getD,hi]
   rw[this,aeg hn];omega
  ·rw[if_neg hk,if_neg hk,if_neg hk];simp
theorem US(d:Nat):∀(ps:List ar),nN (ps.flatMap (pre d))=(ps.map λp=>nN (pre d p)).sum
 | []=>rfl
 | p::ps=>by rw[bz,ag6,US d ps];simp
theorem rO{d:Nat}:∀ {ps:List ar} {n m:Nat},nc d ps n=.ok m->∀p∈ps,∃a b,fe d p a=.ok b
 | [],_,_,_,p,hp=>by simp at hp
 | q::ps,n,m,h,p,hp=>by
  obtain⟨k,h1,h2⟩:=NW h;rcases bB.1 hp with rfl|hp
  ·exact⟨n,k,h1⟩
  ·exact rO h2 p hp
theorem tn{d m:Nat}{v:ar}(h:fe d v n=.ok m):n<600/\d<10/\(1<=v.kind/\v.kind<=4)/\¬ig v/\v.parts.length<=600/\(∀s∈v.names,gx s=true)/\v.names.Nodup/\nc (d+1) v.parts (n+1)=.ok m:=by
 rw[BR]at h;split at h
 ·cases h
 ·rename_i h0;have h0:=qV.1 h0;unfold kH at h0;split at h0
  ·cases h0
  ·obtain⟨a,b,c,e,f⟩:=nB h0;exact⟨aa,aa,a,b,c,e,f,h⟩
theorem Zq(v:ar):∀ {d n m:Nat},fe d v n=.ok m->(enc v).length=nN (pre d v):=by
 induction v using(measure (λv:ar=>SizeOf.sizeOf v)).wf.induction with
 | _ v ih =>
  intro d n m h;obtain⟨h1,h2,h3,h4,h5,h6,h7,h8⟩:=tn h;have dW:=Td (n:=v.kind) aa aa;have hp:nN (v.parts.flatMap (pre (d+1)))=(v.parts.map λp=>(enc p).length).sum:=by
   rw[US];congr 1;refine List.map_congr_left λp hp=>?_;obtain⟨a,b,hab⟩:=rO h8 p hp;exact(ih p (ar.vF hp) hab).symm
  have hpre:nN (pre d v)=AB v+nN (v.parts.flatMap (pre (d+1))):=by
   rw[Dw,if_neg aa,bR aa];simp[nN]
  rw[hpre,hp,B5];unfold ig at h4;simp only[aq,dW,AB];by_cases k1:v.kind=1
  ·have:v.parts=[]:=bL aa;rw[if_pos k1,if_pos k1,this];simp
  ·rw[if_neg k1,if_neg k1];by_cases k2:v.kind=2
   ·have:v.parts=[]:=bL aa;rw[if_pos k2,if_pos k2,this];simp
   ·rw[if_neg k2,if_neg k2,aq];have he:=Pd (k:=v.kind) (s:=v.names) v.parts 0 (λhk=>⟨aa,h6⟩);rw[lC,he];by_cases k4:v.kind=4
    ·rw[if_pos k4];have:(v.names.drop 0).take v.parts.length=v.names:=by
      rw[List.drop_zero,bR aa]
     rw[this];omega
    ·rw[if_neg k4];have:v.names=[]:=bL aa;rw[this];simp;omega
def bI(v:ar):Int×Int:=match fe 0 v 0 with
 | .error e=>e
 | .ok _=>if 4000<(enc v).length then(14, -1)else(0,0)
structure VH where
 k:Int
 n:Int
 bs:Sl
 ss:Sl
 pl:Sl
abbrev cr(h:VH):aD:=[iv h.k,iv h.n,h.bs.v,h.ss.v,h.pl.v]
abbrev fb(h:VH):ao:=.agg (cr h).toArray
inductive bV(V:ae):VH->ar->Prop where
 | mk {h:VH} {v:ar} (hs:List VH):h.k=v.kind->h.n=v.num->ay V h.bs v.bytes->aB p7 V h.ss v.names->aB cr V h.pl hs->hs.length=v.parts.length ->
   (∀(i:Nat) x p,hs[i]?=some x->v.parts[i]?=some p->bV V x p)->bV V h v
section
variable{V V':ae}{h:VH}{v:ar}
theorem bV.kind:bV V h v->h.k=v.kind|.mk _ a _ _ _ _ _ _=>a
theorem bV.num:bV V h v->h.n=v.num|.mk _ _ a _ _ _ _ _=>a
theorem bV.bytes:bV V h v->ay V h.bs v.bytes|.mk _ _ _ a _ _ _ _=>a
theorem bV.names:bV V h v->aB p7 V h.ss v.names|.mk _ _ _ _ a _ _ _=>a
theorem bV.parts:bV V h v->∃hs:List VH,aB cr V h.pl hs/\hs.length=v.parts.length/\∀(i:Nat) x p,hs[i]?=some x->v.parts[i]?=some p->bV V x p|.mk hs _ _ _ _ a b c=>⟨hs,a,b,c⟩
theorem bV.up(k:Sub V V')(a:bV V h v):bV V' h v:=by
 induction a with
 | mk hs a b c d e f _ ih=>exact .mk hs a b (c.up k) (d.up k) (e.up k) f ih
theorem bV.kt(a:bV V h v):h.pl.len=v.parts.length:=by
 obtain⟨hs,a,b,_⟩:=a.parts;rw[a.len,b]
theorem bV.part(a:bV V h v){i:Nat}(hi:i<v.parts.length):Plain h.pl.a/\∃x,bV V x v.parts[i]/\∀j u,(cr x)[j]?=some u->V.cell? ⟨bD h.pl.a,bw h.pl.a+i*5+j,none⟩=some u:=by
 obtain⟨hs,a,b,c⟩:=a.parts;have xJ:i<hs.length:=aa;obtain⟨g1,g2⟩:=a.get (n:=5) (λ_=>rfl) aa xJ;exact⟨g1,hs[i],c i _ _ (a8 xJ) (a8 hi),g2⟩
theorem bV.jE(a:bV V h v){i:Nat}(hi:i<v.parts.length):Plain h.pl.a/\∃x,bV V x v.parts[i]/\V.cell? ⟨bD h.pl.a,bw h.pl.a+i*5,none⟩=some (iv x.k)/\V.cell? ⟨bD h.pl.a,bw h.pl.a+i*5+1,none⟩=some (iv x.n)/\V.cell? ⟨bD h.pl.a,bw h.pl.a+i*5+2,none⟩=some x.bs.v /\
  V.cell? ⟨bD h.pl.a,bw h.pl.a+i*5+3,none⟩=some x.ss.v/\V.cell? ⟨bD h.pl.a,bw h.pl.a+i*5+4,none⟩=some x.pl.v:=by
 obtain⟨g,x,hx,hc⟩:=a.part hi;exact⟨g,x,hx,hc 0 _ rfl,hc 1 _ rfl,hc 2 _ rfl,hc 3 _ rfl,hc 4 _ rfl⟩
end
theorem VB.mono{B':Nat}(hB:B<=B'){v:ar}(h:VB B v):VB B' v:=by
 induction h with
 | mk a b c d e f _ ih=>exact .mk a b aa aa (λs hs=>Nat.le_trans (e s hs) hB) aa ih
end
end Go.Proofs.YtmoiobegbpkkbaaGreatDoor
