import Derived.Test.YtmoiobegbpkkbaaGreatDoorRAG
import Derived.Lib.ValidLaws
import Derived.Shelf.Unicode.DecodeSlow
import Derived.Laws.BitsAllLaws
open Bool renaming true_and->sL,and_eq_true->dM,false_and->yA
open List renaming all_eq_true->bj,mem_cons->bB,append_nil->cm,length_nil->aI,take_append_drop->eN,length_cons->av,take_of_length_le->bR,drop_of_length_le->pW,cons_append->aL,nil_append->aA,mem_map->cG,length_append->aq,length_take->bb,length_drop->bd,length_singleton->cQ,flatMap_cons->bz,eq_nil_of_length_eq_zero->bL,getElem_mem->cj,any_eq_true->AV,set_cons_succ->iR,take_succ_eq_append_getElem->bZ,take_length->fR,drop_eq_getElem_cons->j4,flatMap_append->bT,flatMap_nil->gB,set_cons_zero->bC,map_append->eZ,map_nil->kx,length_pos_iff->jF,flatMap_singleton->Gt
open Nat renaming le_refl->aK,add_zero->mK,zero_mul->yG,mul_comm->mM,zero_add->dU,zero_le->cu
open UInt8 renaming toNat_lt->dY
namespace Go.Proofs.YtmoiobegbpkkbaaGreatDoor
open Go Go.RowKit
set_option maxRecDepth 100000
set_option maxHeartbeats 8000000
variable{x:Int}{c k n a p:Nat}{α:Type}{big:Bool}{l xs L b:ad}{s:Sl}{V:ae}{own:bU}
abbrev rv(c:Nat):ao:=.int .i32 (c:Int)
abbrev ew(c:Nat):aD:=[rv c]
abbrev eO(r:bQ):aD:=[iv r.1,iv r.2]
abbrev vY(e:Int)(r:Sl):aD:=[iv e,r.v]
theorem D9(h:x=c)(hc:c<2147483648):[Value.int .i32 (wr .i32 x)]=ew c:=by
 have e:wr .i32 x=x:=by
  subst h;unfold wr;simp only[IntKind.wrap,IntKind.bits,IntKind.signed];simp;omega
 rw[e,h]
theorem nq(a b:List α)(o:Option (List α)):(o.map (b++·)).map (a++·)=o.map ((a++b)++·):=by cases o<;>simp
theorem C6(h:dX c):c<1114112:=by unfold dX at h;omega
section
variable{V W:ae}
theorem ER(hV:Sub V W)(c i:Int):aC 118 [iv c,iv i] W λv w'=>v=kg c i/\Rel W V [] V w':=by
 have H:=Rel.start hV;refine eV Tryz.func118 8 [0,1,4] ?_;refine wk ?_;refine H.nA ?_;clear H;intro w b1 H;refine H.wg ?_;clear H;intro w H;exact H.sx
theorem qk(n a b:Int)(w:ae):aC 201 [iv n,iv a,iv b] w λv w'=>v=.bool (decide (a<=n/\n<b))/\w=w':=by
 refine eV Tryz.func201 15 [0,1,2,6] ?_;conv=>whnf
 refine gI (λh1=>?_) (λh1=>?_)
 ·conv=>whnf
  exact⟨congrArg Value.bool (decide_eq_decide.2 ⟨λh=>⟨h1,h⟩,λh=>h.2⟩),rfl⟩
 ·conv=>whnf
  exact⟨congrArg Value.bool (decide_eq_false (λh=>h1 h.1)).symm,rfl⟩
theorem Y3(hV:Sub V W)(c:Nat):aC 121 [rv c] W λv w'=>v=.bool (decide (B2 c))/\Rel W V [] V w':=by
 have H:=Rel.start hV;refine eV Tryz.func121 25 [0,2] ?_;by_cases h0:c<32
 ·by_cases h1:c=9
  ·rw[decide_eq_false aa];refine wk ?_;exact H
  by_cases h2:c=10
  ·rw[decide_eq_false aa];refine wk ?_;exact H
  by_cases h3:c=13
  ·rw[decide_eq_false aa];refine wk ?_;exact H
  rw[decide_eq_true aa];refine wk ?_;exact H
 by_cases h1:127<=c
 ·refine wk ?_;exact⟨congrArg Value.bool (decide_eq_decide.2 aa),H⟩
 ·rw[decide_eq_false aa];refine wk ?_;exact H
theorem YD(hV:Sub V W){s:Sl}{l:au}(hs:aB ew V s l)(hl:l.length<=1099511627776){g:FuncId}{caps:aD}(p:Nat->Bool)
  (hg:∀x∈l,∀w:ae,Sub V w->oD g (rv x::caps).toArray w λv w'=>v=.bool (p x)/\Rel w V [] V w') :
  aC 120 [s.v,.func (.func g) #[] caps.toArray] W λv w'=>v=.bool (l.any p)/\Rel W V [] V w':=by
 have key:aC 194 [s.v,.func (.func g) #[] caps.toArray] W λv w'=>(∃i:Int,v=iv i/\(0<=i↔l.any p=true))/\Rel W V [] V w':=by
  have H:=Rel.start hV;have hlen:=hs.len;refine eV Tryz.func194 19 [0,1,4,5,7,8,9,16] ?_;refine wk ?_;refine aY (S:=Nat) ah [0,1,7] (λk=>[(8,iv k)]) (λk w'=>k<=l.length/\(l.take k).any p=false/\Rel W V [] V w') (λk _=>l.length-k) 0 ?_;conv=>whnf
  refine⟨sB,⟨aa,ai,H⟩,?_⟩;clear H;rintro k w⟨hk,hz,H⟩;by_cases hlt:k<l.length
  ·obtain⟨hp,hc⟩:=hs.rW (g:=rv) (λ_=>rfl) hlt;refine wk ?_;refine(hg l[k] (cj hlt) _ H.data).use ?_;rintro v w⟨rfl,K⟩;replace H:=H.call K;conv=>whnf
   refine wY (λh1=>?_) (λh1=>?_)
   ·refine wk ?_;refine⟨⟨k,rfl,λ_=>?_,λ_=>by omega⟩,H⟩;rw[AV];exact⟨l[k],cj hlt,h1⟩
   ·refine wk ?_;exact⟨sB,k+1,sB,⟨aa,by rw[Em hlt,hz,h1];rfl,H⟩,aa⟩
  ·refine wk ?_;refine⟨⟨-1,rfl,λh=>by omega,λh=>?_⟩,H⟩;rw[bR aa]at hz;rw[hz]at h;cases h
 refine eV Tryz.func120 9 [0,1,4] ?_;conv=>whnf
 refine key.use ?_;rintro v w⟨⟨i,rfl,hi⟩,H⟩;conv=>whnf
 refine⟨?_,H⟩;simp only[hi];cases l.any p<;>rfl
theorem YE(hV:Sub V W){s:Sl}{l:List bQ}(hs:aB eO V s l)(hl:l.length<=1099511627776){g:FuncId}{caps:aD}(p:bQ->Bool)
  (hg:∀x∈l,∀w:ae,Sub V w->oD g (.agg (eO x).toArray::caps).toArray w λv w'=>v=.bool (p x)/\Rel w V [] V w') :
  aC 264 [s.v,.func (.func g) #[] caps.toArray] W λv w'=>v=.bool (l.any p)/\Rel W V [] V w':=by
 have key:aC 306 [s.v,.func (.func g) #[] caps.toArray] W λv w'=>(∃i:Int,v=iv i/\(0<=i↔l.any p=true))/\Rel W V [] V w':=by
  have H:=Rel.start hV;have hlen:=hs.len;refine eV Tryz.func306 19 [0,1,4,5,7,8,9,16] ?_;refine wk ?_;refine aY (S:=Nat) ah [0,1,7] (λk=>[(8,iv k)]) (λk w'=>k<=l.length/\(l.take k).any p=false/\Rel W V [] V w') (λk _=>l.length-k) 0 ?_;conv=>whnf
  refine⟨sB,⟨aa,ai,H⟩,?_⟩;clear H;rintro k w⟨hk,hz,H⟩;by_cases hlt:k<l.length
  ·obtain⟨hp,hc,hd⟩:=hs.fM (g:=λr:bQ=>iv r.1) (g':=λr:bQ=>iv r.2) (λ_=>rfl) hlt;refine wk ?_;refine(hg l[k] (cj hlt) _ H.data).use ?_;rintro v w⟨rfl,K⟩;replace H:=H.call K;conv=>whnf
   refine wY (λh1=>?_) (λh1=>?_)
   ·refine wk ?_;refine⟨⟨k,rfl,λ_=>?_,λ_=>by omega⟩,H⟩;rw[AV];exact⟨l[k],cj hlt,h1⟩
   ·refine wk ?_;exact⟨sB,k+1,sB,⟨aa,by rw[Em hlt,hz,h1];rfl,H⟩,aa⟩
  ·refine wk ?_;refine⟨⟨-1,rfl,λh=>by omega,λh=>?_⟩,H⟩;rw[bR aa]at hz;rw[hz]at h;cases h
 refine eV Tryz.func264 9 [0,1,4] ?_;conv=>whnf
 refine key.use ?_;rintro v w⟨⟨i,rfl,hi⟩,H⟩;conv=>whnf
 refine⟨?_,H⟩;simp only[hi];cases l.any p<;>rfl
theorem ahI(hV:Sub V W)(x:bQ):aC 265 [.agg (eO x).toArray] W λv w'=>v=.bool (!decide (x.1=0))/\Rel W V [] V w':=by
 have H:=Rel.start hV;refine eV Tryz.func265 6 [0,1,2] ?_;refine wk ?_;refine H.nA ?_;clear H;intro w b1 H;refine wk ?_;exact⟨congrArg Value.bool (by by_cases h:x.1=0<;>simp[h]),H.sx⟩
theorem Xu(e:Nat)(rs:List dA)(h:∀r∈rs,1<=r.2):(decide (e=0)&&!(aZ rs).any (λx=>!decide (x.1=0)))=iu e (dN rs):=by
 unfold iu;congr 1;rw[List.not_any_eq_all_not];unfold aZ dN;rw[List.all_map,List.all_flatMap];rw[Bool.eq_iff_iff,bj,bj];refine forall_congr' λr=>forall_congr' λhr=>?_;obtain⟨k,n⟩:=r;have:=h _ hr;dsimp only at this;obtain⟨m,rfl⟩:∃m,n=m+1:=⟨n-1,aa⟩
 simp[Function.comp,List.replicate_succ];omega
theorem Hg(hV:Sub V W)(e:Nat){s:Sl}{rs:List dA}(hs:aB eO V s (aZ rs))(hl:rs.length<=1000000)(h:∀r∈rs,1<=r.2):aC 195 [.agg (vY e s).toArray] W λv w'=>v=.bool (iu e (dN rs))/\Rel W V [] V w':=by
 have H:=Rel.start hV;rw[<-Xu e rs h];have eE:(aZ rs).length=rs.length:=by simp[aZ]
 refine eV Tryz.func195 12 [0,1,2] ?_;refine wk ?_;refine H.nA ?_;clear H;intro w b1 H;by_cases he:e=0
 ·rw[decide_eq_true he,sL];refine wk ?_;refine(YE (g:=265) (caps:=[]) H.data hs aa (λx=>!decide (x.1=0)) (λx _ w hw=>ahI hw x)).use ?_;rintro v w⟨rfl,K⟩;(replace H:=H.az K);refine wk ?_;exact H.sx
 ·rw[decide_eq_false he,yA];refine wk ?_;exact H.sx
theorem ah3{u:Nat}(hu:u<65536):(if big=true then[Value.int .u8 (wr .u8 ((u:Int)/256)),Value.int .u8 (wr .u8 (u:Int))]else[Value.int .u8 (wr .u8 (u:Int)),Value.int .u8 (wr .u8 ((u:Int)/256))])=(cO big u).flatMap aE:=by
 have e1:wr .u8 ((u:Int)/256)=((u/256:Nat):Int):=by show((u:Int)/256)%256=_;omega
 have e2:wr .u8 (u:Int)=((u%256:Nat):Int):=by show(u:Int)%256=_;omega
 rw[e1,e2];unfold cO;split<;>simp only[bz,gB,aE,bv,aL,aA]<;>rw[cH aa,cH aa]
theorem wE(hV:Sub V W){u:Nat}(hu:u<65536)(big:Bool):aC 208 [iv (u:Int),.bool big] W λv w'=>∃(V':ae) (r:Sl),Sub V V'/\Rel W V [] V' w'/\v=r.v/\ay V' r (cO big u):=by
 have H:=Rel.start hV;have hc:=ah3 (big:=big) hu;refine eV Tryz.func208 18 [0,1,4,5] ?_;cases big
 ·rw[if_neg ai]at hc;refine wk ?_;refine H.nA ?_;clear H;intro w b1 H;replace H:=H.bA (c':=(cO false u).flatMap aE) (by rw[iF];exact hc);obtain⟨V2,hV2,H,hb⟩:=H.bt;refine wk ?_;exact⟨V2,⟨some ⟨b1,0,none⟩,2,2⟩,hV2,H.sx,rfl,⟨rfl,aK _,hb.cells⟩⟩
 ·rw[if_pos rfl]at hc;refine wk ?_;refine H.nA ?_;clear H;intro w b1 H;replace H:=H.bA (c':=(cO true u).flatMap aE) (by rw[iF];exact hc);obtain⟨V2,hV2,H,hb⟩:=H.bt;refine wk ?_;exact⟨V2,⟨some ⟨b1,0,none⟩,2,2⟩,hV2,H.sx,rfl,⟨rfl,aK _,hb.cells⟩⟩
structure Ns(W V:ae)(o:Option au)(v:ao)(w':ae):Prop where
 ex:∃(V':ae) (r:Sl),Sub V V'/\Rel W V [] V' w'/\(match o with
  | none=>v=.tuple #[r.v,.bool false]
  | some cs=>v=.tuple #[r.v,.bool true]/\aB ew V' r cs)
theorem ah5(hk:k<l.length/2):(iV big l).drop k=Bi big l k::(iV big l).drop (k+1):=by
 rw[j4 (by simp[iV];omega)];congr 1;simp[iV]
theorem Uy:x*2^min (Int.toNat 10) IntKind.i64.bits=1024*x:=by
 show x*1024=_;omega
def qB(h:Option Nat):Int:=match h with
 | none => -1
 | some u=>(u:Int)
theorem VR(hV:Sub V W){s:Sl}{l:ad}(hs:ay V s l)(hl:l.length<=1000000)(ai8:l.length%2=0)(big:Bool):aC 191 [s.v,.bool big] W (Ns W V (fo (iV big l))):=by
 have H:=Rel.start hV;have hlen:=hs.len;refine eV Tryz.func191 77 [0,1,4,5,6,7,8,9,10,14,31,52,57,70] ?_;refine wk ?_;replace H:=H.cb 21 1
 refine aY (S:=Nat×Sl×au×Option Nat) ah [0,1] (λq=>[(6,q.2.1.v),(7,iv (qB q.2.2.2)),(8,iv ((2*q.1:Nat):Int))])
  (λq w'=>q.1<=l.length/2/\q.2.2.1.length<=q.1/\fo (iV big l)=(fo (q.2.2.2.toList++(iV big l).drop q.1)).map (q.2.2.1++·)/\(∀u,q.2.2.2=some u->iO u)/\Rel W V [.row q.2.1 21 1 (q.2.2.1.flatMap ew)] V w') (λq _=>l.length/2-q.1) (0,⟨none,0,0⟩,[],none) ?_
 conv=>whnf
 refine⟨sB,⟨aa,aK _,ai,ai,H⟩,?_⟩;clear H;rintro⟨k,r6,out,h⟩w⟨hk,gV,fi,pw,H⟩;dsimp only at hk gV fi pw H |-;by_cases hlt:k<l.length/2;rotate_left
 ·have jS:(iV big l).drop k=[]:=pW (by simp[iV];omega);rw[jS,cm]at fi;cases h with
  | none =>
   have e:fo (iV big l)=some out:=by rw[fi];simp[fo]
   rw[e];obtain⟨V2,hV2,H,hr⟩:=Rel.aT H (λ_=>rfl) ag;dsimp only[qB];refine wk ?_;exact⟨V2,r6,hV2,H.sx,rfl,hr⟩
  | some u =>
   have hu:=pw u rfl;have e:fo (iV big l)=none:=by rw[fi];rw[show(some u).toList=[u]from rfl,D3 hu [] ai];rfl
   rw[e];unfold iO at hu;dsimp only[qB];refine wk ?_;exact⟨V,r6,Sub.refl _,H.sx,rfl⟩
 rw[ah5 hlt]at fi;obtain⟨X,hX⟩:∃X,X=(iV big l).drop (k+1):=⟨_,rfl⟩
 rw[<-hX]at fi;obtain⟨p0,c0⟩:=hs.aX (g:=bv) (λ_=>rfl) (show 2*k<l.length by omega);obtain⟨p1,c1⟩:=hs.aX (g:=bv) (λ_=>rfl) (show 2*k+1<l.length by omega);have z0:=l[2*k].toNat_lt;have z1:=l[2*k+1].toNat_lt;have iN:=yu z0 z1;have J5:=yu z1 z0;have tT:=VI big l k;obtain⟨u,hu⟩:∃u,u=Bi big l k:=⟨_,rfl⟩
 have hu2:=hu;unfold Bi at hu2;rw[rL (show 2*k<l.length by omega),rL (show 2*k+1<l.length by omega)]at hu2;rw[<-hu]at fi tT;refine wk ?_;(first|refine dV 6 [] [0,1,2,3,4,5,6,7,8,9,10,11,12,13] H ?_|refine dV 8 [] [0,1,2,3,4,5,6,7,8,9,10,11,12,13] H ?_);clear H;intro w H;refine wk ?_;rw[iF];refine wk ?_;rw[iN];cases big
 ·rw[if_neg ai]at hu2;refine wk ?_;(first|refine dV 6 [] [0,1,2,3,4,5,6,7,8,9,10,11,12,13] H ?_|refine dV 8 [] [0,1,2,3,4,5,6,7,8,9,10,11,12,13] H ?_);clear H;intro w H;refine wk ?_;rw[iF];refine wk ?_;rw[J5,<-hu2];refine wk ?_;refine(qk _ _ _ _).use ?_;rintro v w'⟨rfl,rfl⟩;rw[show decide ((56320:Int)<=((u:Nat):Int)/\((u:Nat):Int)<57344)=decide (iP u)from decide_eq_decide.2 (by unfold iP;omega)];by_cases jY:iP u
  ·rw[decide_eq_true jY];cases hh:h with
   | none =>
    rw[hh]at fi;rw[fi,show(none:Option Nat).toList++u::X=u::X from rfl,MY jY];dsimp only[qB];refine wk ?_;exact⟨V,⟨none,0,0⟩,Sub.refl _,H.sx,rfl⟩
   | some g =>
    rw[hh]at fi pw;have hg:=pw g rfl;rw[show(some g).toList++u::X=g::u::X from rfl,M0 hg jY]at fi;dsimp only[qB];unfold iP iO at *;obtain⟨c,hc⟩:∃c,c=65536+1024*(g-55296)+(u-56320):=⟨_,rfl⟩
    rw[<-hc]at fi;refine wk ?_;rw[Uy];refine H.wg ?_;clear H;intro _ w H;replace H:=H.bA (c':=ew c) (D9 aa aa);refine Rel.dC (f:=ew) (l:=out) (x:=c) ah rfl rfl rfl rfl rfl ag (λ_=>rfl) (bj.1 rfl) H (by simp;omega) aa ?_;clear H;intro rn w H;refine wk ?_;refine⟨sB,(k+1,rn,out++[c],none),⟨rfl,rfl,congrArg (λz=>some (iv z)) (by dsimp only;omega),trivial⟩,⟨by dsimp only;omega,by dsimp only;rw[aq,cQ];omega,?_,ai,H.sx⟩,by dsimp only;omega⟩;rw[fi,<-hX];exact nq out [c] (fo X)
  ·rw[decide_eq_false jY];cases hh:h with
   | some g =>
    rw[hh]at fi pw;have hg:=pw g rfl;rw[fi,show(some g).toList++u::X=g::u::X from rfl,D3 hg (u::X) (λv k e=>by cases e;exact jY)];dsimp only[qB];unfold iO at hg;refine wk ?_;exact⟨V,⟨none,0,0⟩,Sub.refl _,H.sx,rfl⟩
   | none =>
    rw[hh]at fi;rw[show(none:Option Nat).toList++u::X=u::X from rfl]at fi;dsimp only[qB];refine wk ?_;refine(qk _ _ _ _).use ?_;rintro v w'⟨rfl,rfl⟩;rw[show decide ((55296:Int)<=((u:Nat):Int)/\((u:Nat):Int)<56320)=decide (iO u)from decide_eq_decide.2 (by unfold iO;omega)];by_cases tM:iO u
    ·rw[decide_eq_true tM];refine wk ?_;refine⟨sB,(k+1,r6,out,some u),⟨rfl,rfl,congrArg (λz=>some (iv z)) (by dsimp only;omega),trivial⟩,⟨by dsimp only;omega,by dsimp only;omega,?_,by intro g hg;cases hg;exact tM,H.sx⟩,by dsimp only;omega⟩;rw[fi,<-hX];rfl
    ·rw[decide_eq_false tM];rw[MZ jY tM]at fi;refine H.wg ?_;clear H;intro _ w H;replace H:=H.bA (c':=ew u) (D9 aa aa);refine Rel.dC (f:=ew) (l:=out) (x:=u) ah rfl rfl rfl rfl rfl ag (λ_=>rfl) (bj.1 rfl) H (by simp;omega) aa ?_;clear H;intro rn w H;refine wk ?_;refine⟨sB,(k+1,rn,out++[u],none),⟨rfl,rfl,congrArg (λz=>some (iv z)) (by dsimp only;omega),trivial⟩,⟨by dsimp only;omega,by dsimp only;rw[aq,cQ];omega,?_,ai,H.sx⟩,by dsimp only;omega⟩;rw[fi,<-hX];exact nq out [u] (fo X)
 ·rw[if_pos rfl]at hu2;rw[<-hu2];refine wk ?_;refine(qk _ _ _ _).use ?_;rintro v w'⟨rfl,rfl⟩;rw[show decide ((56320:Int)<=((u:Nat):Int)/\((u:Nat):Int)<57344)=decide (iP u)from decide_eq_decide.2 (by unfold iP;omega)];by_cases jY:iP u
  ·rw[decide_eq_true jY];cases hh:h with
   | none =>
    rw[hh]at fi;rw[fi,show(none:Option Nat).toList++u::X=u::X from rfl,MY jY];dsimp only[qB];refine wk ?_;exact⟨V,⟨none,0,0⟩,Sub.refl _,H.sx,rfl⟩
   | some g =>
    rw[hh]at fi pw;have hg:=pw g rfl;rw[show(some g).toList++u::X=g::u::X from rfl,M0 hg jY]at fi;dsimp only[qB];unfold iP iO at *;obtain⟨c,hc⟩:∃c,c=65536+1024*(g-55296)+(u-56320):=⟨_,rfl⟩
    rw[<-hc]at fi;refine wk ?_;rw[Uy];refine H.wg ?_;clear H;intro _ w H;replace H:=H.bA (c':=ew c) (D9 aa aa);refine Rel.dC (f:=ew) (l:=out) (x:=c) ah rfl rfl rfl rfl rfl ag (λ_=>rfl) (bj.1 rfl) H (by simp;omega) aa ?_;clear H;intro rn w H;refine wk ?_;refine⟨sB,(k+1,rn,out++[c],none),⟨rfl,rfl,congrArg (λz=>some (iv z)) (by dsimp only;omega),trivial⟩,⟨by dsimp only;omega,by dsimp only;rw[aq,cQ];omega,?_,ai,H.sx⟩,by dsimp only;omega⟩;rw[fi,<-hX];exact nq out [c] (fo X)
  ·rw[decide_eq_false jY];cases hh:h with
   | some g =>
    rw[hh]at fi pw;have hg:=pw g rfl;rw[fi,show(some g).toList++u::X=g::u::X from rfl,D3 hg (u::X) (λv k e=>by cases e;exact jY)];dsimp only[qB];unfold iO at hg;refine wk ?_;exact⟨V,⟨none,0,0⟩,Sub.refl _,H.sx,rfl⟩
   | none =>
    rw[hh]at fi;rw[show(none:Option Nat).toList++u::X=u::X from rfl]at fi;dsimp only[qB];refine wk ?_;refine(qk _ _ _ _).use ?_;rintro v w'⟨rfl,rfl⟩;rw[show decide ((55296:Int)<=((u:Nat):Int)/\((u:Nat):Int)<56320)=decide (iO u)from decide_eq_decide.2 (by unfold iO;omega)];by_cases tM:iO u
    ·rw[decide_eq_true tM];refine wk ?_;refine⟨sB,(k+1,r6,out,some u),⟨rfl,rfl,congrArg (λz=>some (iv z)) (by dsimp only;omega),trivial⟩,⟨by dsimp only;omega,by dsimp only;omega,?_,by intro g hg;cases hg;exact tM,H.sx⟩,by dsimp only;omega⟩;rw[fi,<-hX];rfl
    ·rw[decide_eq_false tM];rw[MZ jY tM]at fi;refine H.wg ?_;clear H;intro _ w H;replace H:=H.bA (c':=ew u) (D9 aa aa);refine Rel.dC (f:=ew) (l:=out) (x:=u) ah rfl rfl rfl rfl rfl ag (λ_=>rfl) (bj.1 rfl) H (by simp;omega) aa ?_;clear H;intro rn w H;refine wk ?_;refine⟨sB,(k+1,rn,out++[u],none),⟨rfl,rfl,congrArg (λz=>some (iv z)) (by dsimp only;omega),trivial⟩,⟨by dsimp only;omega,by dsimp only;rw[aq,cQ];omega,?_,ai,H.sx⟩,by dsimp only;omega⟩;rw[fi,<-hX];exact nq out [u] (fo X)
end
theorem ady:∀x:Nat,x<32->bN .or .u8 192 (x:Int)=((192+x:Nat):Int):=by decide +kernel
theorem adz:∀x:Nat,x<16->bN .or .u8 224 (x:Int)=((224+x:Nat):Int):=by decide +kernel
theorem adA:∀x:Nat,x<8->bN .or .u8 240 (x:Int)=((240+x:Nat):Int):=by decide +kernel
theorem adx:∀x:Nat,x<64->bN .or .u8 128 (x:Int)=((128+x:Nat):Int):=by decide +kernel
theorem Xo:∀x:Nat,x<256->bN .and .u8 (x:Int) 63=((x%64:Nat):Int):=by decide +kernel
theorem Ax(n:Nat):bN .or .u8 128 (bN .and .u8 (wr .u8 (n:Int)) 63)=((128+n%64:Nat):Int):=by
 rw[show wr .u8 (n:Int)=((n%256:Nat):Int)from rfl,Xo _ aa,show n%256%64=n%64 by omega,adx _ aa]
theorem Ms(n:Nat):(n:Int)/2^min (Int.toNat 6) IntKind.i32.bits=((n/64:Nat):Int):=rfl
theorem Uw(n:Nat):(n:Int)/2^min (Int.toNat 12) IntKind.i32.bits=((n/4096:Nat):Int):=rfl
theorem agt(n:Nat):(n:Int)/2^min (Int.toNat 18) IntKind.i32.bits=((n/262144:Nat):Int):=rfl
theorem Ea(h:n<256):wr .u8 (n:Int)=(n:Int):=by show(n:Int)%256=_;omega
section
variable{w0 V0 V w:ae}{own:bU}
theorem Xz(H:Rel w0 V0 (.row s 5 1 (xs.flatMap aE)::own) V w){c:Nat}(hc:dX c)(h128:¬c<128)(hl:xs.length<=1000000000) :
  aC 263 [s.v,rv c] w λv w'=>∃r:Sl,v=r.v/\Rel w0 V0 (.row r 5 1 ((xs++bM c).flatMap aE)::own) V w':=by
 have hlt:=C6 hc;unfold bM;rw[if_neg h128];obtain⟨z,hz⟩:∃z:Int,z=(c:Int):=⟨_,rfl⟩
 have II:wr .u32 z=z:=by show z%4294967296=_;omega
 show oD _ [s.v,Value.int .i32 (c:Int)].toArray w _;rw[<-hz];refine eV Tryz.func263 78 [0,1,4,5,11,25,50] ?_;refine wk ?_;rw[II];by_cases h2:c<2048
 ·rw[if_pos h2];have k1:bN .or .u8 192 (wr .u8 ((c:Int)/2^min (Int.toNat 6) IntKind.i32.bits))=((192+c/64:Nat):Int):=by rw[Ms,Ea aa,ady _ aa]
  refine wk ?_;refine H.nA ?_;clear H;intro w b1 H;subst hz;rw[k1,Ax]at H;replace H:=H.bA (c':=[UInt8.ofNat (192+c/64),UInt8.ofNat (128+c%64)].flatMap aE) (by simp only[bz,gB,aE,bv,aL,aA,cH (show 192+c/64<256 by omega),cH (show 128+c%64<256 by omega)]);replace H:=H.fA (n:=2) (e:=5) (sz:=1) rfl (by simp[maxLen]);refine wk ?_;refine Rel.dD (s:=s) (x:=⟨some ⟨b1,0,none⟩,2,2⟩) (xs:=xs) (ys:=[UInt8.ofNat (192+c/64),UInt8.ofNat (128+c%64)]) H (i:=0) rfl (by simp only[av,aI];omega) ?_;clear H;intro r w H;simp only[bC]at H;refine wk ?_;exact⟨r,rfl,H⟩
 rw[if_neg h2];by_cases h3:c<65536
 ·rw[if_pos h3];have k1:bN .or .u8 224 (wr .u8 ((c:Int)/2^min (Int.toNat 12) IntKind.i32.bits))=((224+c/4096:Nat):Int):=by rw[Uw,Ea aa,adz _ aa]
  unfold dX at hc;by_cases h4:c<55296
  all_goals
   refine wk ?_;refine H.nA ?_;clear H;intro w b1 H;subst hz;rw[k1,Ms,Ax,Ax]at H;replace H:=H.bA (c':=[UInt8.ofNat (224+c/4096),UInt8.ofNat (128+c/64%64),UInt8.ofNat (128+c%64)].flatMap aE) (by simp only[bz,gB,aE,bv,aL,aA,cH (show 224+c/4096<256 by omega),cH (show 128+c/64%64<256 by omega),cH (show 128+c%64<256 by omega)]);replace H:=H.fA (n:=3) (e:=5) (sz:=1) rfl (by simp[maxLen]);refine wk ?_;refine Rel.dD (s:=s) (x:=⟨some ⟨b1,0,none⟩,3,3⟩) (xs:=xs) (ys:=[UInt8.ofNat (224+c/4096),UInt8.ofNat (128+c/64%64),UInt8.ofNat (128+c%64)]) H (i:=0) rfl (by simp only[av,aI];omega) ?_;clear H;intro r w H;simp only[bC]at H;refine wk ?_;exact⟨r,rfl,H⟩
 rw[if_neg h3];have k1:bN .or .u8 240 (wr .u8 ((c:Int)/2^min (Int.toNat 18) IntKind.i32.bits))=((240+c/262144:Nat):Int):=by rw[agt,Ea aa,adA _ aa]
 refine wk ?_;refine H.nA ?_;clear H;intro w b1 H;subst hz;rw[k1,Uw,Ms,Ax,Ax,Ax]at H;replace H:=H.bA (c':=[UInt8.ofNat (240+c/262144),UInt8.ofNat (128+c/4096%64),UInt8.ofNat (128+c/64%64),UInt8.ofNat (128+c%64)].flatMap aE) (by simp only[bz,gB,aE,bv,aL,aA,cH (show 240+c/262144<256 by omega),cH (show 128+c/4096%64<256 by omega),cH (show 128+c/64%64<256 by omega),cH (show 128+c%64<256 by omega)]);replace H:=H.fA (n:=4) (e:=5) (sz:=1) rfl (by simp[maxLen]);refine wk ?_;refine Rel.dD (s:=s) (x:=⟨some ⟨b1,0,none⟩,4,4⟩) (xs:=xs) (ys:=[UInt8.ofNat (240+c/262144),UInt8.ofNat (128+c/4096%64),UInt8.ofNat (128+c/64%64),UInt8.ofNat (128+c%64)]) H (i:=0) rfl (by simp only[av,aI];omega) ?_;clear H;intro r w H;simp only[bC]at H;refine wk ?_;exact⟨r,rfl,H⟩
theorem BI(H:Rel w0 V0 (.row s 5 1 (xs.flatMap aE)::own) V w){c:Nat}(hc:dX c)(hl:xs.length<=1000000000) :
  aC 193 [s.v,rv c] w λv w'=>∃r:Sl,v=r.v/\Rel w0 V0 (.row r 5 1 ((xs++bM c).flatMap aE)::own) V w':=by
 have hlt:=C6 hc;have II:wr .u32 (c:Int)=(c:Int):=by show(c:Int)%4294967296=_;omega
 refine eV Tryz.func193 16 [0,1,4,7] ?_;refine wk ?_;rw[II];by_cases h1:c<128
 ·unfold bM;rw[if_pos h1];refine wk ?_;refine H.nA ?_;clear H;intro w b1 H;rw[Ea (show c<256 by omega)]at H;replace H:=H.bA (c':=[UInt8.ofNat c].flatMap aE) (by simp only[bz,gB,aE,bv,aL,aA,cH (show c<256 by omega)]);replace H:=H.fA (n:=1) (e:=5) (sz:=1) rfl (by simp[maxLen]);refine wk ?_;refine Rel.dD (s:=s) (x:=⟨some ⟨b1,0,none⟩,1,1⟩) (xs:=xs) (ys:=[UInt8.ofNat c]) H (i:=0) rfl (by simp only[av,aI];omega) ?_;clear H;intro r w H;simp only[bC]at H;refine wk ?_;exact⟨r,rfl,H⟩
 refine wk ?_;refine(Xz H hc h1 hl).use ?_;clear H;rintro v w⟨r,rfl,H⟩;refine wk ?_;exact⟨r,rfl,H⟩
end
theorem aiu(a:Nat):(a<128/\iH a=1/\mv a=a)\/(128<=a/\a<192/\iH a=0/\mv a=0)\/(192<=a/\a<224/\iH a=2/\mv a=a-192)\/(224<=a/\a<240/\iH a=3/\mv a=a-224)\/(240<=a/\iH a=4/\mv a=a-240):=by
 unfold iH mv;by_cases h1:a<128
 ·rw[if_pos h1,if_pos h1];left;exact⟨h1,rfl,rfl⟩
 rw[if_neg h1,if_neg h1];by_cases h2:a<192
 ·rw[if_pos h2,if_pos h2];right;left;exact⟨aa,h2,rfl,rfl⟩
 rw[if_neg h2,if_neg h2];by_cases h3:a<224
 ·rw[if_pos h3,if_pos h3];right;right;left;exact⟨aa,h3,rfl,rfl⟩
 rw[if_neg h3,if_neg h3];by_cases h4:a<240
 ·rw[if_pos h4,if_pos h4];right;right;right;left;exact⟨aa,h4,rfl,rfl⟩
 rw[if_neg h4,if_neg h4];right;right;right;right;exact⟨aa,rfl,rfl⟩
theorem MX(c:Nat):(c<128/\jM c=1)\/(128<=c/\c<2048/\jM c=2)\/(2048<=c/\c<65536/\jM c=3)\/(65536<=c/\jM c=4):=by
 unfold jM;by_cases h1:c<128
 ·rw[if_pos h1];exact .inl ⟨h1,rfl⟩
 rw[if_neg h1];by_cases h2:c<2048
 ·rw[if_pos h2];exact .inr (.inl ⟨aa,h2,rfl⟩)
 rw[if_neg h2];by_cases h3:c<65536
 ·rw[if_pos h3];exact .inr (.inr (.inl ⟨aa,h3,rfl⟩))
 rw[if_neg h3];exact .inr (.inr (.inr ⟨aa,rfl⟩))
theorem ahq(h1:ir l 1):∀j,j<2->0<j->ir l j:=λj hj iB=>by
 obtain rfl:j=1:=aa;exact h1
theorem ahr(h1:ir l 1)(h2:ir l 2):∀j,j<3->0<j->ir l j:=λj hj iB=>by
 obtain rfl|rfl:j=1\/j=2:=aa
 ·exact h1
 ·exact h2
theorem ahs(h1:ir l 1)(h2:ir l 2)(h3:ir l 3):∀j,j<4->0<j->ir l j:=λj hj iB=>by
 obtain rfl|rfl|rfl:j=1\/j=2\/j=3:=aa
 ·exact h1
 ·exact h2
 ·exact h3
theorem OX(hne:l≠[]):Lib.decodeN l.length (at8 l 0) (at8 l 1) (at8 l 2) (at8 l 3)=match o9 l with
  | some x=>x
  | none=>(65533,1):=by
 have hl:=jF.2 hne;have b0:at8 l 0<256:=dY _;have b1:at8 l 1<256:=dY _;have b2:at8 l 2<256:=dY _;have b3:at8 l 3<256:=dY _;unfold o9;rcases aiu (at8 l 0)with⟨h1,hw,hh⟩|⟨h1,h2,hw,hh⟩|⟨h1,h2,hw,hh⟩|⟨h1,h2,hw,hh⟩|⟨h1,hw,hh⟩
 ·have hr:j5 l=at8 l 0:=by unfold j5;rw[hw,hh];rfl
  rw[hr,hw];rw[if_pos ⟨ag,aa,λj hj iB=>by omega,by unfold dX;omega,by unfold jM;rw[if_pos h1]⟩];unfold Lib.decodeN;rw[if_pos h1]
 ·rw[hw,if_neg (λk=>by have:=k.pos;omega)];exact Lib.decodeN_bad _ _ _ _ _ (.inl ⟨h1,aa⟩)
 ·have hr:j5 l=64*(at8 l 0-192)+(at8 l 1-128):=by unfold j5;rw[hw,hh];exact HM _ _
  have hn:=MX (j5 l);rw[hw];unfold Lib.decodeN;rw[if_neg aa];by_cases hk:Bs l (j5 l) 2
  ·rw[if_pos hk];obtain⟨_,k2,k3,k4,k5⟩:=hk;obtain⟨t1,t2⟩:=k3 1 ag ag;rw[if_pos aa,if_pos aa];exact Prod.ext (by simp only;omega) rfl
  ·rw[if_neg hk];by_cases hc:at8 l 0/32=6/\1<l.length/\at8 l 1/64=2
   ·rw[if_pos hc];by_cases hc2:at8 l 0%32*64+at8 l 1%64>=128
    ·exact absurd ⟨ag,aa,ahq (by unfold ir;omega),by unfold dX;omega,aa⟩ hk
    ·rw[if_neg hc2]
   ·rw[if_neg hc,if_neg aa,if_neg aa]
 ·have hr:j5 l=64*(64*(at8 l 0-224)+(at8 l 1-128))+(at8 l 2-128):=by unfold j5;rw[hw,hh];exact kG _ _
  have hn:=MX (j5 l);rw[hw];unfold Lib.decodeN;rw[if_neg aa,if_neg aa];by_cases hk:Bs l (j5 l) 3
  ·rw[if_pos hk];obtain⟨_,k2,k3,k4,k5⟩:=hk;obtain⟨t1,t2⟩:=k3 1 ag ag;obtain⟨t3,t4⟩:=k3 2 ag ag;unfold dX at k4;rw[if_pos aa,if_pos aa];exact Prod.ext (by simp only;omega) rfl
  ·rw[if_neg hk];by_cases hc:at8 l 0/16=14/\(1<l.length/\at8 l 1/64=2)/\(2<l.length/\at8 l 2/64=2)
   ·rw[if_pos hc];by_cases hc2:at8 l 0%16*4096+at8 l 1%64*64+at8 l 2%64>=2048/\(at8 l 0%16*4096+at8 l 1%64*64+at8 l 2%64<55296\/(57344<=at8 l 0%16*4096+at8 l 1%64*64+at8 l 2%64/\at8 l 0%16*4096+at8 l 1%64*64+at8 l 2%64<=1114111))
    ·exact absurd ⟨ag,aa,ahr (by unfold ir;omega) (by unfold ir;omega),by unfold dX;omega,aa⟩ hk
    ·rw[if_neg hc2]
   ·rw[if_neg hc,if_neg aa]
 ·have hr:j5 l=64*(64*(64*(at8 l 0-240)+(at8 l 1-128))+(at8 l 2-128))+(at8 l 3-128):=by unfold j5;rw[hw,hh];exact HN _ _
  have hn:=MX (j5 l);rw[hw];unfold Lib.decodeN;rw[if_neg aa,if_neg aa,if_neg aa];by_cases hk:Bs l (j5 l) 4
  ·rw[if_pos hk];obtain⟨_,k2,k3,k4,k5⟩:=hk;obtain⟨t1,t2⟩:=k3 1 ag ag;obtain⟨t3,t4⟩:=k3 2 ag ag;obtain⟨t5,t6⟩:=k3 3 ag ag;unfold dX at k4;rw[if_pos aa,if_pos aa];exact Prod.ext (by simp only;omega) rfl
  ·rw[if_neg hk];by_cases hc:at8 l 0/8=30/\(1<l.length/\at8 l 1/64=2)/\(2<l.length/\at8 l 2/64=2)/\(3<l.length/\at8 l 3/64=2)
   ·rw[if_pos hc];by_cases hc2:at8 l 0%8*262144+at8 l 1%64*4096+at8 l 2%64*64+at8 l 3%64>=65536/\(at8 l 0%8*262144+at8 l 1%64*4096+at8 l 2%64*64+at8 l 3%64<55296\/(57344<=at8 l 0%8*262144+at8 l 1%64*4096+at8 l 2%64*64+at8 l 3%64/\at8 l 0%8*262144+at8 l 1%64*4096+at8 l 2%64*64+at8 l 3%64<=1114111))
    ·exact absurd ⟨ag,aa,ahs (by unfold ir;omega) (by unfold ir;omega) (by unfold ir;omega),by unfold dX;omega,aa⟩ hk
    ·rw[if_neg hc2]
   ·rw[if_neg hc]
theorem rX(l:ad)(i:Nat):(l.getD i 0).toNat=at8 l i:=by simp[at8,List.getD_eq_getElem?_getD]
theorem D6:∀(n:Nat) {l:ad},l.length<=n->Lib.validD l=(chars l).isSome
 | 0,l,h=>by
  have:l=[]:=bL aa;subst this;rfl
 | n+1,l,h=>by
  by_cases hn:l=[]
  ·subst hn;rfl
  rw[Lib.validD_step l hn,Lib.decodeL_N,rX,rX,rX,rX,OX hn,Ey hn];cases hc:o9 l with
  | none=>simp
  | some x =>
   obtain⟨c,k⟩:=x;obtain⟨q0,q1,q2,_⟩:=zD hc;have hu:=qd c;simp only;have abe:¬(c=65533/\k=1):=λ⟨e1,e2⟩=>by
    rw[e1]at q1;rw[e2]at q1;revert q1;decide
   rw[if_neg abe,D6 n (by rw[bd];omega)];cases chars (l.drop k)<;>rfl
theorem UN(l:ad):(⟨l.toArray⟩:ByteArray).data.toList=l:=ai
theorem IH{i:Nat}(h:o9 (l.drop i)=some (c,n)):Utf8.decode ⟨l.toArray⟩ i=(c,n):=by
 have hne:l.drop i≠[]:=by
  intro e;rw[e]at h;obtain⟨_,q1,q2,_⟩:=zD h;have:=qd c;simp at q2;omega
 have key:∀k,((⟨l.toArray⟩:ByteArray).data.toList.getD (i+k) 0).toNat=at8 (l.drop i) k:=λk=>by
  rw[UN,rX];simp[at8,List.getElem?_drop]
 have k0:=key 0;rw[mK]at k0;rw[Lib.decode_N,k0,key,key,key,UN,<-bd,OX hne,h]
theorem zh{x:Nat}(hx:x<256){p:Int}(q:Nat)(hp:p=(q:Int))(hq:q<=72057594037927936):wr .u64 (wr .u64 (x:Int)*p)=((x*q:Nat):Int):=by
 subst hp;have:x*q<=255*72057594037927936:=Nat.mul_le_mul aa hq;show((x:Int)%18446744073709551616*q)%18446744073709551616=_;rw[show(x:Int)%18446744073709551616=x by omega,<-Int.natCast_mul];omega
theorem aix{x:Nat}(hx:x<18446744073709551616):wr .u64 (x:Int)=x:=by show(x:Int)%18446744073709551616=_;omega
theorem Xq:∀x:Nat,x<256->bN .and .u8 (x:Int) 7=((x%8:Nat):Int):=by decide +kernel
def F9(T:List TD)(ops:List Oper)(xs ys:au):au->Bool
 | []=>true
 | x::r=>(match ops[x]? with
  | some ox=>r.all λi=>(match ops[i]? with
   | some oi=>uQ T ops.toArray xs ys x ox i oi
   | none=>false)||(mc ops ops.length i).contains x
  | none=>false)&&F9 T ops xs ys r
theorem SP(T:List TD)(ops:List Oper)(xs ys:au):∀r,F9 T ops xs ys r=qS T ops xs ys r
 | []=>rfl
 | x::r=>by
  unfold F9 qS;rw[SP T ops xs ys r];congr 1;cases ops[x]? with
  | none=>rfl
  | some ox =>
   simp only;congr 1;funext i;exact Bool.or_comm _ _
def K0(T:List TD)(ops:List Oper)(xs ys π:au):Bool :=
 qb ops π&&F9 T ops xs ys π&&((List.range ops.length).all λi=>π.contains i)&&decide (π.length=ops.length)&&decide π.Nodup&&π.all λi=>decide (i<ops.length)
theorem adG(T:List TD)(ops:List Oper)(xs ys π:au):K0 T ops xs ys π=yv T ops xs ys π:=by
 unfold K0 yv;rw[SP]
theorem aS{C:Cx}(hT:bK C.P C.T)(hm:C.P.follows .mixedOrders=true){id:Nat}{ops:Array Oper}{env:Env}{ds:List Deferred}{w:ae}{Q:ic}(xs π:au)
  (hok:K0 C.T ops.toList xs π π=true)
  (h:∀w1,Bt w w1->y9 C ops.toList xs π env w1 (λaJ w'=>nG aJ C.live λe'=>Q .normal e' ds w') (λch w'=>Q (.panic ch) [] ds w')) :
  aP C (.region id ops true) env ds w Q:=O6 hT hm xs π (by rw[<-adG];exact hok) h
structure Xe(W V:ae)(n:Nat)(v:ao)(w':ae):Prop where
 v:v=.int .u64 (n:Int)
 rel:Rel W V [] V w'
section
variable{V W:ae}
theorem zf(hV:Sub V W){s:Sl}{l:ad}(hs:ay V s l)(h8:8<=l.length):aC 204 [s.v] W (Xe W V (Lib.leNat (l.take 8))):=by
 have H:=Rel.start hV;have hlen:=hs.len;obtain⟨a0,a1,a2,a3,a4,a5,a6,a7,r,rfl⟩:∃a0 a1 a2 a3 a4 a5 a6 a7 r,l=a0::a1::a2::a3::a4::a5::a6::a7::r:=by
  match l,h8 with
  | a0::a1::a2::a3::a4::a5::a6::a7::r,_=>exact⟨_,_,_,_,_,_,_,_,_,rfl⟩
 obtain⟨p0,c0⟩:=hs.aX (g:=bv) (i:=0) (λ_=>rfl) aa;obtain⟨_,c1⟩:=hs.aX (g:=bv) (i:=1) (λ_=>rfl) aa;obtain⟨_,c2⟩:=hs.aX (g:=bv) (i:=2) (λ_=>rfl) aa;obtain⟨_,c3⟩:=hs.aX (g:=bv) (i:=3) (λ_=>rfl) aa;obtain⟨_,c4⟩:=hs.aX (g:=bv) (i:=4) (λ_=>rfl) aa;obtain⟨_,c5⟩:=hs.aX (g:=bv) (i:=5) (λ_=>rfl) aa;obtain⟨_,c6⟩:=hs.aX (g:=bv) (i:=6) (λ_=>rfl) aa;obtain⟨_,c7⟩:=hs.aX (g:=bv) (i:=7) (λ_=>rfl) aa;simp only[List.getElem_cons_zero,List.getElem_cons_succ]at c0 c1 c2 c3 c4 c5 c6 c7;have z0:=a0.toNat_lt;have z1:=a1.toNat_lt;have z2:=a2.toNat_lt;have z3:=a3.toNat_lt;have z4:=a4.toNat_lt;have z5:=a5.toNat_lt;have z6:=a6.toNat_lt;have z7:=a7.toNat_lt;refine eV Tryz.func204 71 [0,2] ?_;refine wk ?_;(first|refine dV 1 [] [0,1,2,3,4,5,6,7,8,9,10,11,12,13,14,15,16,17,18,19,20,21,22] H ?_|refine dV 2 [] [0,1,2,3,4,5,6,7,8,9,10,11,12,13,14,15,16,17,18,19,20,21,22,23,24,25,26,27,28,29,30,31,32,33,34,35,36,37,38,39,40,41,42,43,44,45,46] H ?_);clear H;intro w H;refine wk ?_;have w1:=zh z1 (p:=2^min (Int.toNat 8) IntKind.u64.bits) 256 ag ag;have w2:=zh z2 (p:=2^min (Int.toNat 16) IntKind.u64.bits) 65536 ag ag;have w3:=zh z3 (p:=2^min (Int.toNat 24) IntKind.u64.bits) 16777216 ag ag;have w4:=zh z4 (p:=2^min (Int.toNat 32) IntKind.u64.bits) 4294967296 ag ag;have w5:=zh z5 (p:=2^min (Int.toNat 40) IntKind.u64.bits) 1099511627776 ag ag;have w6:=zh z6 (p:=2^min (Int.toNat 48) IntKind.u64.bits) 281474976710656 ag ag;have w7:=zh z7 (p:=2^min (Int.toNat 56) IntKind.u64.bits) 72057594037927936 ag ag;rw[aix (show a0.toNat<18446744073709551616 by omega),w1,w2,w3,w4,w5,w6,w7];have o1:=vE (u:=a0.toNat) (x:=a1.toNat) (j:=8) (by simp only[Nat.reducePow];omega) (by simp only[Nat.reducePow];omega) aa;have o2:=vE (u:=a0.toNat+a1.toNat*256) (x:=a2.toNat) (j:=16) (by simp only[Nat.reducePow];omega) (by simp only[Nat.reducePow];omega) aa;have o3:=vE (u:=a0.toNat+a1.toNat*256+a2.toNat*65536) (x:=a3.toNat) (j:=24) (by simp only[Nat.reducePow];omega) (by simp only[Nat.reducePow];omega) aa;have o4:=vE (u:=a0.toNat+a1.toNat*256+a2.toNat*65536+a3.toNat*16777216) (x:=a4.toNat) (j:=32) (by simp only[Nat.reducePow];omega) (by simp only[Nat.reducePow];omega) aa;have o5:=vE (u:=a0.toNat+a1.toNat*256+a2.toNat*65536+a3.toNat*16777216+a4.toNat*4294967296) (x:=a5.toNat) (j:=40) (by simp only[Nat.reducePow];omega) (by simp only[Nat.reducePow];omega) aa;have o6:=vE (u:=a0.toNat+a1.toNat*256+a2.toNat*65536+a3.toNat*16777216+a4.toNat*4294967296+a5.toNat*1099511627776) (x:=a6.toNat) (j:=48) (by simp only[Nat.reducePow];omega) (by simp only[Nat.reducePow];omega) aa;have o7:=vE (u:=a0.toNat+a1.toNat*256+a2.toNat*65536+a3.toNat*16777216+a4.toNat*4294967296+a5.toNat*1099511627776+a6.toNat*281474976710656) (x:=a7.toNat) (j:=56) (by simp only[Nat.reducePow];omega) (by simp only[Nat.reducePow];omega) aa;simp only[Nat.reducePow]at o1 o2 o3 o4 o5 o6 o7;rw[o1,o2,o3,o4,o5,o6,o7];refine⟨congrArg (λz:Nat=>Value.int .u64 (z:Int)) ?_,H⟩;simp only[List.take_succ_cons,List.take_zero,Lib.leNat];omega
theorem wU(h:ay V s l){i:Nat}(hi:i<l.length):Plain s.a/\V.cell? ⟨bD s.a,bw s.a+i,none⟩=some (.int .u8 (at8 l i:Nat)):=by
 obtain⟨p,c⟩:=h.aX (g:=bv) (λ_=>rfl) hi;rw[rL hi];exact⟨p,c⟩
theorem ay.full(h:ay V s l):ay V ⟨aU s.a 0 s.len 1,s.len,s.len⟩ l:=by
 refine⟨h.len,aK _,λhne=>?_,λj v hj=>?_⟩
 ·have hp:Plain s.a:=h.cells.1 hne;exact(yV hp:Plain (aU s.a 0 s.len 1))
 ·have hp:Plain s.a:=h.cells.1 (λe=>by rw[e]at hj;simp at hj);have hc:=h.cells.2 j v hj;have ho:bw (aU s.a 0 s.len 1)=bw s.a:=by
   by_cases hz:s.len=0
   ·unfold aU;rw[if_pos hz]
   ·rw[yU hp hz,yG,mK]
  show V.cell? ⟨bD (aU s.a 0 s.len 1),bw (aU s.a 0 s.len 1)+j,none⟩=some v;rw[yT,ho];exact hc
theorem Yg:∀(n:Nat) {L:ad},n<=L.length->(∀b∈L.take n,b.toNat<128)->(chars L).isSome=(chars (L.drop n)).isSome:=λn L _ h=>by
 rw[<-D6 _ (aK _),<-D6 _ (aK _)];exact Lib.validD_ascii n L h
theorem zd(h8:8<=L.length)(hz:Lib.leNat (L.take 8)&&&9259542123273814144=0):∀b∈L.take 8,b.toNat<128:=by
 have:=Lib.leNat_mask (L.take 8);rw[bb,Nat.min_eq_left h8,Lib.maskN8]at this;exact this.1 hz
theorem ze(L:ad):Lib.leNat (L.take 8)<18446744073709551616:=by
 have h:=Lib.leNat_lt (L.take 8);have:(L.take 8).length<=8:=by rw[bb];omega
 have h2:256^(L.take 8).length<=256^8:=Nat.pow_le_pow_right ag this;simp only[Nat.reducePow]at h2;omega
abbrev CI:Nat:=9259542123273814144
theorem HS(h:a<18446744073709551616):bN .and .u64 (a:Int) 9259542123273814144=((a&&&CI:Nat):Int):=u64_and_nat a CI h ag
theorem F4{b:Nat}(h:a<18446744073709551616)(k:b<18446744073709551616):bN .or .u64 (a:Int) (b:Int)=((a|||b:Nat):Int):=u64_or_nat a b h k
theorem AJ{b:Nat}(h:a<18446744073709551616)(k:b<18446744073709551616):a|||b<18446744073709551616:=Nat.or_lt_two_pow (n:=64) h k
theorem Ep{m:Nat}(h:∀b∈L.take m,b.toNat<128)(k:∀b∈(L.drop m).take n,b.toNat<128):∀b∈L.take (m+n),b.toNat<128:=by
 rw[List.take_add];intro b hb;rcases List.mem_append.1 hb with hb|hb
 ·exact h b hb
 ·exact k b hb
structure zq(V:ae)(l:ad)(p:Sl)(L:ad):Prop where
 iY:ay V p L
 le:L.length<=l.length
 same:(chars l).isSome=(chars L).isSome
theorem zq.rest{p:Sl}(h:zq V l p L){n:Nat}(hn:n<=L.length)(ha:∀b∈L.take n,b.toNat<128):zq V l ⟨aU p.a n p.cap 1,p.len-n,p.cap-n⟩ (L.drop n):=by
 have h1:=h.iY.len;have h2:=h.iY.cap;refine⟨?_,by rw[bd];have:=h.le;omega,by rw[h.same,Yg n hn ha]⟩;have:=h.iY.sub (n:=1) (λ_=>rfl) (a:=n) (b:=p.len) aa aa;rw[h1,fR]at this;rw[h1];exact this
theorem VY(hV:Sub V W)(hT:Lib.Utf8Tabs 0 1 V){s:Sl}{l:ad}(hs:ay V s l)(hl:l.length<=1000000000):aC 126 [s.v] W λv w'=>v=.bool (chars l).isSome/\Rel W V [] V w':=by
 have H:=Rel.start hV;have hlen:=hs.len;have mo:=hs.cap;refine eV Tryz.func126 188 [0,2,3,4,5,6,15,20,31,46,69,82,83,103,106,138,141,185] ?_;refine wk ?_;refine aY (S:=Sl×ad) ah [] (λq=>[(0,q.1.v)]) (λq w'=>zq V l q.1 q.2/\Rel W V [] V w') (λq _=>q.2.length) (⟨aU s.a 0 s.len 1,s.len,s.len⟩,l) ?_;conv=>whnf
 refine⟨sB,⟨⟨hs.full,aK _,rfl⟩,H⟩,?_⟩;clear H;rintro⟨p,L⟩w⟨hI,H⟩;dsimp only at hI H |-;have hp:=hI.iY;have hpl:=hp.len;have hpc:=hp.cap;have hle:=hI.le;by_cases hn:L=[]
 ·subst hn;rw[aI]at hpl;rw[hI.same];refine wk ?_;exact H.sx
 have hpos:=jF.2 hn;obtain⟨q0,c0⟩:=wU hp (i:=0) hpos;have z0:at8 L 0<256:=dY _;refine wk ?_;by_cases aay:at8 L 0<128
 ·have Ci:=hI.rest (n:=1) aa (by
   cases L with
   | nil=>simp
   | cons a r =>
    intro b hb;simp at hb;rw[hb];exact aay)
  obtain⟨L1,E4⟩:∃L1,L1=L.drop 1:=⟨_,rfl⟩
  have ai2:L1.length+1=L.length:=by rw[E4,bd];omega
  rw[<-E4]at Ci;have b1:=Ci.iY;have XI:=b1.len;have XH:=b1.cap;dsimp only at XI XH;refine wk ?_;by_cases h8:8<L1.length;rotate_left
  ·refine wk ?_;exact⟨sB,(⟨aU p.a 1 p.cap 1,p.len-1,p.cap-1⟩,L1),sB,⟨Ci,H.sx⟩,by dsimp only;omega⟩
  refine wk ?_;refine(zf H.data b1 aa).use ?_;rintro v w⟨rfl,K⟩;(replace H:=H.az K);obtain⟨N1,Qa⟩:∃N,N=Lib.leNat (L1.take 8):=⟨_,rfl⟩
  have Qb:=ze L1;rw[<-Qa]at Qb |-;refine wk ?_;rw[HS Qb];refine wk ?_;by_cases vx:N1&&&CI=0;rotate_left
  ·refine wk ?_;exact⟨sB,(⟨aU p.a 1 p.cap 1,p.len-1,p.cap-1⟩,L1),sB,⟨Ci,H.sx⟩,by dsimp only;omega⟩
  have Cj:=Ci.rest (n:=8) aa (zd aa (by rw[<-Qa];exact vx));obtain⟨L2,P5⟩:∃L2,L2=L1.drop 8:=⟨_,rfl⟩
  have ai3:L2.length+8=L1.length:=by rw[P5,bd];omega
  rw[<-P5]at Cj;have b2:=Cj.iY;have NJ:=b2.len;have XK:=b2.cap;dsimp only at Cj b2 NJ XK;refine wk ?_;have hb8:8<=L2.length->ay V ⟨aU (aU (aU p.a 1 p.cap 1) 8 (p.cap-1) 1) 8 (p.cap-1-8) 1,(p.len-1-8)-8,(p.cap-1-8)-8⟩ (L2.drop 8):=λh=>by
   have:=b2.sub (n:=1) (λ_=>rfl) (a:=8) (b:=L2.length) aa aa;rw[fR]at this;rw[NJ];exact this
  obtain⟨B,hB⟩:∃B:Bool,B=(decide (16<L2.length)&&decide ((Lib.leNat (L2.take 8)|||Lib.leNat ((L2.drop 8).take 8))&&&CI=0)):=⟨_,rfl⟩
  refine aP.uX (λ_:Unit=>[(0,.slice (aU (aU p.a 1 p.cap 1) 8 (p.cap-1) 1) (p.len-1-8) (p.cap-1-8)),(46,.bool B)]) (λ_ w'=>Rel W V [] V w') ?_ ?_
  ·(first|refine cz (id:=8) ah mixed (Kv V) Kv.trans [] [] [0,1,2,3,4,6,7,5,8,9,10,11,12] [(5,[]),(8,[5])] aj ?_|refine cz (id:=10) ah mixed (Kv V) Kv.trans [] [] [0,1,2,3,4,6,7,10,11,13,14,5,8,9,12,15,16,17,18,19,20] [(5,[]),(8,[5]),(12,[5,8]),(15,[5,8,12])] aj ?_|refine cz (id:=18) ah mixed (Kv V) Kv.trans [] [] [0,1,2,3,4,5,6,7,8,9,10,11,12,13,14,15,16,17,18] [] aj ?_|refine cz (id:=22) ah mixed (Kv V) Kv.trans [] [] [0,1,2,3,4,5,6,7,8,9,10,11,12,13,14,15,16,17,18,19,20,21,22,23,24,25,26,27,28,29,30] [] aj ?_|refine cz (id:=26) ah mixed (Kv V) Kv.trans [] [] [0,1,2,3,4,5,6,7,8,9,10,11,12,13,14,15,16,17,18,19,20,21,22,23,24,25,26,27,28,29,30,31,32,33,34,35,36,37,38,39,40,41,42] [] aj ?_);intro w aR;replace H:=Rel.ext H aR.ext;by_cases h16:16<L2.length
   ·rw[decide_eq_true h16,sL]at hB;obtain⟨N2,Cm⟩:∃N,N=Lib.leNat (L2.take 8):=⟨_,rfl⟩
    obtain⟨N3,Cn⟩:∃N,N=Lib.leNat ((L2.drop 8).take 8):=⟨_,rfl⟩
    have vc:=ze L2;have vd:=ze (L2.drop 8);have aaC:=hb8 aa;have Jy:8<=(L2.drop 8).length:=by rw[bd];omega
    rw[<-Cm]at hB vc;rw[<-Cn]at hB vd;rw[hB];repeat' (refine wk ?_;first|(first|refine Kv.go H ?_|refine Kv.go2 H (by assumption) ?_|(refine And.intro (λw1 hkp=>?_) ?_;focus ((first|have H:=Kv.in H hkp|have H:=Kv.gi H (by assumption) hkp);((repeat ((conv=>whnf);first|refine an ?_|refine H.ce ?_|refine H.db ?_|refine ea ?_|refine ol ?_|fail|refine cT ?_|refine cF ?_|refine cN ?_|refine cM ?_|refine H.lw ?_|refine H.ll ?_));(conv=>whnf));all_goals (first|exact⟨rfl,rfl⟩|exact rfl)))|refine And.intro ?_ ?_|(refine H.nA ?_;clear H;intro w _ H))|(refine(zf H.data b2 aa).use ?_;rintro v w⟨rfl,K⟩;(replace H:=H.az K);rw[<-Cm])|(refine(zf H.data aaC Jy).use ?_;rintro v w⟨rfl,K⟩;(replace H:=H.az K);rw[<-Cn]))
    conv=>whnf
    refine⟨rfl,(),⟨rfl,?_,trivial⟩,H.sx⟩;rw[F4 vc vd,HS (AJ vc vd)];exact congrArg (λz=>some (Value.bool z)) (decide_eq_decide.2 aa)
   ·rw[decide_eq_false h16,yA]at hB;rw[hB];refine wk ?_;exact⟨(),sB,H.sx⟩
  clear H;rintro _ w H;cases hBc:B with
  | false =>
   refine wk ?_;exact⟨sB,(⟨(aU (aU p.a 1 p.cap 1) 8 (p.cap-1) 1),(p.len-1-8),(p.cap-1-8)⟩,L2),sB,⟨Cj,H.sx⟩,by dsimp only;omega⟩
  | true =>
  rw[hBc]at hB;replace hB:=hB.symm;simp only[dM,decide_eq_true_eq]at hB;obtain⟨h16,iN⟩:=hB;obtain⟨J5,abi⟩:=(Lib.or_mask _ _ _).1 iN;have Jy:8<=(L2.drop 8).length:=by rw[bd];omega
  have P4:=Cj.rest (n:=16) aa (Ep (m:=8) (n:=8) (zd aa J5) (zd Jy abi));obtain⟨L3,P6⟩:∃L3,L3=L2.drop 16:=⟨_,rfl⟩
  have ai4:L3.length+16=L2.length:=by rw[P6,bd];omega
  rw[<-P6]at P4;refine wk ?_;refine aY (S:=Sl×ad) ah [2,3,4,5,6,15,20,31,46,82,83,103,106,138,141,185] (λq=>[(0,q.1.v)]) (λq w'=>zq V l q.1 q.2/\q.2.length<L.length/\Rel W V [] V w') (λq _=>q.2.length) (⟨aU (aU (aU p.a 1 p.cap 1) 8 (p.cap-1) 1) 16 (p.cap-1-8) 1,(p.len-1-8)-16,(p.cap-1-8)-16⟩,L3) ?_;conv=>whnf
  refine⟨sB,⟨P4,by dsimp only;omega,H⟩,?_⟩;clear H;rintro⟨p4,L4⟩w⟨Ck,P7,H⟩;dsimp only at Ck P7 H |-;have b4:=Ck.iY;have XL:=b4.len;have b4c:=b4.cap;have b4e:=Ck.le;have dy:∀k,k<=L4.length->ay V ⟨aU p4.a k p4.cap 1,p4.len-k,p4.cap-k⟩ (L4.drop k):=λk h=>by
   have:=b4.sub (n:=1) (λ_=>rfl) (a:=k) (b:=L4.length) h aa;rw[fR]at this;rw[XL];exact this
  obtain⟨B4,ob⟩:∃B:Bool,B=(decide (32<L4.length)&&decide (((Lib.leNat (L4.take 8)|||Lib.leNat ((L4.drop 8).take 8))|||(Lib.leNat ((L4.drop 16).take 8)|||Lib.leNat ((L4.drop 24).take 8)))&&&CI=0)):=⟨_,rfl⟩
  conv=>whnf
  refine aP.uX (λ_:Unit=>[(0,p4.v),(46,.bool true),(69,.bool B4)]) (λ_ w'=>Rel W V [] V w') ?_ ?_
  ·(first|refine cz (id:=8) ah mixed (Kv V) Kv.trans [] [] [0,1,2,3,4,6,7,5,8,9,10,11,12] [(5,[]),(8,[5])] aj ?_|refine cz (id:=10) ah mixed (Kv V) Kv.trans [] [] [0,1,2,3,4,6,7,10,11,13,14,5,8,9,12,15,16,17,18,19,20] [(5,[]),(8,[5]),(12,[5,8]),(15,[5,8,12])] aj ?_|refine cz (id:=18) ah mixed (Kv V) Kv.trans [] [] [0,1,2,3,4,5,6,7,8,9,10,11,12,13,14,15,16,17,18] [] aj ?_|refine cz (id:=22) ah mixed (Kv V) Kv.trans [] [] [0,1,2,3,4,5,6,7,8,9,10,11,12,13,14,15,16,17,18,19,20,21,22,23,24,25,26,27,28,29,30] [] aj ?_|refine cz (id:=26) ah mixed (Kv V) Kv.trans [] [] [0,1,2,3,4,5,6,7,8,9,10,11,12,13,14,15,16,17,18,19,20,21,22,23,24,25,26,27,28,29,30,31,32,33,34,35,36,37,38,39,40,41,42] [] aj ?_);intro w aR;replace H:=Rel.ext H aR.ext;by_cases h32:32<L4.length
   ·rw[decide_eq_true h32,sL]at ob;obtain⟨N2,Cm⟩:∃N,N=Lib.leNat (L4.take 8):=⟨_,rfl⟩
    obtain⟨N3,Cn⟩:∃N,N=Lib.leNat ((L4.drop 8).take 8):=⟨_,rfl⟩
    obtain⟨N4,Qc⟩:∃N,N=Lib.leNat ((L4.drop 16).take 8):=⟨_,rfl⟩
    obtain⟨N5,Qd⟩:∃N,N=Lib.leNat ((L4.drop 24).take 8):=⟨_,rfl⟩
    have vc:=ze L4;have vd:=ze (L4.drop 8);have E5:=ze (L4.drop 16);have E6:=ze (L4.drop 24);have g1:=dy 8 aa;have g2:=dy 16 aa;have g3:=dy 24 aa;have d1:8<=(L4.drop 8).length:=by rw[bd];omega
    have d2:8<=(L4.drop 16).length:=by rw[bd];omega
    have d3:8<=(L4.drop 24).length:=by rw[bd];omega
    rw[<-Cm]at ob vc;rw[<-Cn]at ob vd;rw[<-Qc]at ob E5;rw[<-Qd]at ob E6;rw[ob];repeat' (refine wk ?_;first|(first|refine Kv.go H ?_|refine Kv.go2 H (by assumption) ?_|(refine And.intro (λw1 hkp=>?_) ?_;focus ((first|have H:=Kv.in H hkp|have H:=Kv.gi H (by assumption) hkp);((repeat ((conv=>whnf);first|refine an ?_|refine H.ce ?_|refine H.db ?_|refine ea ?_|refine ol ?_|fail|refine cT ?_|refine cF ?_|refine cN ?_|refine cM ?_|refine H.lw ?_|refine H.ll ?_));(conv=>whnf));all_goals (first|exact⟨rfl,rfl⟩|exact rfl)))|refine And.intro ?_ ?_|(refine H.nA ?_;clear H;intro w _ H))|(refine(zf H.data b4 aa).use ?_;rintro v w⟨rfl,K⟩;(replace H:=H.az K);rw[<-Cm])|(refine(zf H.data g1 d1).use ?_;rintro v w⟨rfl,K⟩;(replace H:=H.az K);rw[<-Cn])|(refine(zf H.data g2 d2).use ?_;rintro v w⟨rfl,K⟩;(replace H:=H.az K);rw[<-Qc])|(refine(zf H.data g3 d3).use ?_;rintro v w⟨rfl,K⟩;(replace H:=H.az K);rw[<-Qd]))
    conv=>whnf
    refine⟨rfl,(),⟨rfl,rfl,?_,trivial⟩,H.sx⟩;rw[F4 vc vd,F4 E5 E6,F4 (AJ vc vd) (AJ E5 E6),HS (AJ (AJ vc vd) (AJ E5 E6))];exact congrArg (λz=>some (Value.bool z)) (decide_eq_decide.2 aa)
   ·rw[decide_eq_false h32,yA]at ob;rw[ob];refine wk ?_;exact⟨(),sB,H.sx⟩
  clear H;rintro _ w H;cases aap:B4 with
  | false =>
   refine wk ?_;exact⟨sB,(p4,L4),sB,⟨Ck,H.sx⟩,P7⟩
  | true =>
  rw[aap]at ob;replace ob:=ob.symm;simp only[dM,decide_eq_true_eq]at ob;obtain⟨h32,abj⟩:=ob;obtain⟨abk,abl⟩:=(Lib.or_mask _ _ _).1 abj;obtain⟨r1,r2⟩:=(Lib.or_mask _ _ _).1 abk;obtain⟨r3,r4⟩:=(Lib.or_mask _ _ _).1 abl;have d1:8<=(L4.drop 8).length:=by rw[bd];omega
  have d2:8<=(L4.drop 16).length:=by rw[bd];omega
  have d3:8<=(L4.drop 24).length:=by rw[bd];omega
  have a2:=Ep (m:=8) (n:=8) (zd aa r1) (zd d1 r2);have a3:=Ep (m:=16) (n:=8) a2 (zd d2 r3);have a4:=Ep (m:=24) (n:=8) a3 (zd d3 r4);have hI5:=Ck.rest (n:=32) aa a4;refine wk ?_;exact⟨sB,(⟨aU p4.a 32 p4.cap 1,p4.len-32,p4.cap-32⟩,L4.drop 32),sB,⟨hI5,by dsimp only;rw[bd];omega,H.sx⟩,by dsimp only;rw[bd];omega⟩
 have vn:=Lib.validD_lead L hn (by rw[rX];omega);rw[rX,rX,rX,rX,D6 _ (aK _)]at vn;have c1:=hT.1 (at8 L 0) z0;have cJ:=Lib.firstT_cases (at8 L 0);obtain⟨x,hx⟩:∃x,x=Lib.firstT (at8 L 0):=⟨_,rfl⟩
 rw[<-hx]at vn c1 cJ;have abz:x<256:=aa;obtain⟨c2,c3⟩:=hT.2 (x/16) aa;obtain⟨lo,JS⟩:∃lo,lo=Lib.accLo (x/16):=⟨_,rfl⟩
 obtain⟨hi,pw⟩:∃hi,hi=Lib.accHi (x/16):=⟨_,rfl⟩
 rw[<-JS]at vn c2;rw[<-pw]at vn c3;obtain⟨sz,hsz⟩:∃sz,sz=x%8:=⟨_,rfl⟩
 rw[<-hsz]at vn;have c1':V.cell? ⟨0,0+at8 L 0,none⟩=some (.int .u8 (x:Int)):=by rw[dU];exact c1
 have X3:V.cell? ⟨1,0+x/16*2,none⟩=some (.int .u8 (lo:Int)):=by rw[dU,mM];exact c2
 have c3':V.cell? ⟨1,0+x/16*2+1,none⟩=some (.int .u8 (hi:Int)):=by rw[dU,mM];exact c3
 have e7:=Xq x abz;rw[<-hsz]at e7;refine wk ?_;rw[e7];refine wk ?_;rw[show(x:Int)/2^min (Int.toNat 4) IntKind.u8.bits=((x/16:Nat):Int)from rfl];refine wk ?_;refine H.nA ?_;clear H;intro w b6 H;have bad:Lib.checkN L.length (at8 L 1) (at8 L 2) (at8 L 3) sz lo hi=none->(chars l).isSome=false:=λh=>by rw[hI.same,vn,h]
 have good:∀k,k<=L.length->1<=k->Lib.checkN L.length (at8 L 1) (at8 L 2) (at8 L 3) sz lo hi=some k->zq V l ⟨aU p.a k p.cap 1,p.len-k,p.cap-k⟩ (L.drop k):=λk hk _ h=>by
  refine⟨?_,by rw[bd];omega,by rw[hI.same,vn,h];exact D6 _ (aK _)⟩;have:=hp.sub (n:=1) (λ_=>rfl) (a:=k) (b:=L.length) hk aa;rw[fR]at this;rw[hpl];exact this
 have k1:at8 L 1<256:=dY _;have k2:at8 L 2<256:=dY _;have k3:at8 L 3<256:=dY _;clear vn;by_cases s2:sz=2
 ·have u:∀ {a b c d:Nat},Lib.checkN a b c d sz lo hi=if a<2\/b<lo\/hi<b then none else some 2:=λ{a b c d}=>by unfold Lib.checkN;rw[if_pos s2]
  by_cases h2:L.length<2
  ·rw[bad (by rw[u,if_pos aa])];refine H.wg ?_;clear H;intro w H;(first|refine aS (id:=8) ah mixed [] [0,1,2,3,4,6,7,5,8,9,10,11,12] aj ?_|refine aS (id:=10) ah mixed [] [0,1,2,3,4,6,7,10,11,13,14,5,8,9,12,15,16,17,18,19,20] aj ?_|refine aS (id:=18) ah mixed [] [0,1,2,3,4,5,6,7,8,9,10,11,12,13,14,15,16,17,18] aj ?_|refine aS (id:=22) ah mixed [] [0,1,2,3,4,5,6,7,8,9,10,11,12,13,14,15,16,17,18,19,20,21,22,23,24,25,26,27,28,29,30] aj ?_|refine aS (id:=26) ah mixed [] [0,1,2,3,4,5,6,7,8,9,10,11,12,13,14,15,16,17,18,19,20,21,22,23,24,25,26,27,28,29,30,31,32,33,34,35,36,37,38,39,40,41,42] aj ?_);intro w aR;replace H:=Rel.ext H aR.ext;refine wk ?_;exact H.sx
  obtain⟨q1,d1⟩:=wU hp (i:=1) aa;by_cases g1:at8 L 1<lo
  ·rw[bad (by rw[u,if_pos aa])];refine H.wg ?_;clear H;intro w H;(first|refine aS (id:=8) ah mixed [] [0,1,2,3,4,6,7,5,8,9,10,11,12] aj ?_|refine aS (id:=10) ah mixed [] [0,1,2,3,4,6,7,10,11,13,14,5,8,9,12,15,16,17,18,19,20] aj ?_|refine aS (id:=18) ah mixed [] [0,1,2,3,4,5,6,7,8,9,10,11,12,13,14,15,16,17,18] aj ?_|refine aS (id:=22) ah mixed [] [0,1,2,3,4,5,6,7,8,9,10,11,12,13,14,15,16,17,18,19,20,21,22,23,24,25,26,27,28,29,30] aj ?_|refine aS (id:=26) ah mixed [] [0,1,2,3,4,5,6,7,8,9,10,11,12,13,14,15,16,17,18,19,20,21,22,23,24,25,26,27,28,29,30,31,32,33,34,35,36,37,38,39,40,41,42] aj ?_);intro w aR;replace H:=Rel.ext H aR.ext;refine wk ?_;exact H.sx
  by_cases g2:hi<at8 L 1
  ·rw[bad (by rw[u,if_pos aa])];refine H.wg ?_;clear H;intro w H;(first|refine aS (id:=8) ah mixed [] [0,1,2,3,4,6,7,5,8,9,10,11,12] aj ?_|refine aS (id:=10) ah mixed [] [0,1,2,3,4,6,7,10,11,13,14,5,8,9,12,15,16,17,18,19,20] aj ?_|refine aS (id:=18) ah mixed [] [0,1,2,3,4,5,6,7,8,9,10,11,12,13,14,15,16,17,18] aj ?_|refine aS (id:=22) ah mixed [] [0,1,2,3,4,5,6,7,8,9,10,11,12,13,14,15,16,17,18,19,20,21,22,23,24,25,26,27,28,29,30] aj ?_|refine aS (id:=26) ah mixed [] [0,1,2,3,4,5,6,7,8,9,10,11,12,13,14,15,16,17,18,19,20,21,22,23,24,25,26,27,28,29,30,31,32,33,34,35,36,37,38,39,40,41,42] aj ?_);intro w aR;replace H:=Rel.ext H aR.ext;refine wk ?_;exact H.sx
  refine H.wg ?_;clear H;intro w H;(first|refine aS (id:=8) ah mixed [] [0,1,2,3,4,6,7,5,8,9,10,11,12] aj ?_|refine aS (id:=10) ah mixed [] [0,1,2,3,4,6,7,10,11,13,14,5,8,9,12,15,16,17,18,19,20] aj ?_|refine aS (id:=18) ah mixed [] [0,1,2,3,4,5,6,7,8,9,10,11,12,13,14,15,16,17,18] aj ?_|refine aS (id:=22) ah mixed [] [0,1,2,3,4,5,6,7,8,9,10,11,12,13,14,15,16,17,18,19,20,21,22,23,24,25,26,27,28,29,30] aj ?_|refine aS (id:=26) ah mixed [] [0,1,2,3,4,5,6,7,8,9,10,11,12,13,14,15,16,17,18,19,20,21,22,23,24,25,26,27,28,29,30,31,32,33,34,35,36,37,38,39,40,41,42] aj ?_);intro w aR;replace H:=Rel.ext H aR.ext;refine wk ?_;exact⟨sB,(⟨aU p.a 2 p.cap 1,p.len-2,p.cap-2⟩,L.drop 2),sB,⟨good 2 aa aa (by rw[u,if_neg aa]),H.sx⟩,by dsimp only;rw[bd];omega⟩
 by_cases s3:sz=3
 ·have u:∀ {a b c d:Nat},Lib.checkN a b c d sz lo hi=if a<3\/b<lo\/hi<b\/c<128\/191<c then none else some 3:=λ{a b c d}=>by unfold Lib.checkN;rw[if_neg s2,if_pos s3]
  by_cases h2:L.length<3
  ·rw[bad (by rw[u,if_pos aa])];refine H.wg ?_;clear H;intro w H;(first|refine aS (id:=8) ah mixed [] [0,1,2,3,4,6,7,5,8,9,10,11,12] aj ?_|refine aS (id:=10) ah mixed [] [0,1,2,3,4,6,7,10,11,13,14,5,8,9,12,15,16,17,18,19,20] aj ?_|refine aS (id:=18) ah mixed [] [0,1,2,3,4,5,6,7,8,9,10,11,12,13,14,15,16,17,18] aj ?_|refine aS (id:=22) ah mixed [] [0,1,2,3,4,5,6,7,8,9,10,11,12,13,14,15,16,17,18,19,20,21,22,23,24,25,26,27,28,29,30] aj ?_|refine aS (id:=26) ah mixed [] [0,1,2,3,4,5,6,7,8,9,10,11,12,13,14,15,16,17,18,19,20,21,22,23,24,25,26,27,28,29,30,31,32,33,34,35,36,37,38,39,40,41,42] aj ?_);intro w aR;replace H:=Rel.ext H aR.ext;refine wk ?_;exact H.sx
  obtain⟨q1,d1⟩:=wU hp (i:=1) aa;obtain⟨q2,d2⟩:=wU hp (i:=2) aa;by_cases g1:at8 L 1<lo
  ·rw[bad (by rw[u,if_pos aa])];refine H.wg ?_;clear H;intro w H;(first|refine aS (id:=8) ah mixed [] [0,1,2,3,4,6,7,5,8,9,10,11,12] aj ?_|refine aS (id:=10) ah mixed [] [0,1,2,3,4,6,7,10,11,13,14,5,8,9,12,15,16,17,18,19,20] aj ?_|refine aS (id:=18) ah mixed [] [0,1,2,3,4,5,6,7,8,9,10,11,12,13,14,15,16,17,18] aj ?_|refine aS (id:=22) ah mixed [] [0,1,2,3,4,5,6,7,8,9,10,11,12,13,14,15,16,17,18,19,20,21,22,23,24,25,26,27,28,29,30] aj ?_|refine aS (id:=26) ah mixed [] [0,1,2,3,4,5,6,7,8,9,10,11,12,13,14,15,16,17,18,19,20,21,22,23,24,25,26,27,28,29,30,31,32,33,34,35,36,37,38,39,40,41,42] aj ?_);intro w aR;replace H:=Rel.ext H aR.ext;refine wk ?_;exact H.sx
  by_cases g2:hi<at8 L 1
  ·rw[bad (by rw[u,if_pos aa])];refine H.wg ?_;clear H;intro w H;(first|refine aS (id:=8) ah mixed [] [0,1,2,3,4,6,7,5,8,9,10,11,12] aj ?_|refine aS (id:=10) ah mixed [] [0,1,2,3,4,6,7,10,11,13,14,5,8,9,12,15,16,17,18,19,20] aj ?_|refine aS (id:=18) ah mixed [] [0,1,2,3,4,5,6,7,8,9,10,11,12,13,14,15,16,17,18] aj ?_|refine aS (id:=22) ah mixed [] [0,1,2,3,4,5,6,7,8,9,10,11,12,13,14,15,16,17,18,19,20,21,22,23,24,25,26,27,28,29,30] aj ?_|refine aS (id:=26) ah mixed [] [0,1,2,3,4,5,6,7,8,9,10,11,12,13,14,15,16,17,18,19,20,21,22,23,24,25,26,27,28,29,30,31,32,33,34,35,36,37,38,39,40,41,42] aj ?_);intro w aR;replace H:=Rel.ext H aR.ext;refine wk ?_;exact H.sx
  by_cases g3:at8 L 2<128
  ·rw[bad (by rw[u,if_pos aa])];refine H.wg ?_;clear H;intro w H;(first|refine aS (id:=8) ah mixed [] [0,1,2,3,4,6,7,5,8,9,10,11,12] aj ?_|refine aS (id:=10) ah mixed [] [0,1,2,3,4,6,7,10,11,13,14,5,8,9,12,15,16,17,18,19,20] aj ?_|refine aS (id:=18) ah mixed [] [0,1,2,3,4,5,6,7,8,9,10,11,12,13,14,15,16,17,18] aj ?_|refine aS (id:=22) ah mixed [] [0,1,2,3,4,5,6,7,8,9,10,11,12,13,14,15,16,17,18,19,20,21,22,23,24,25,26,27,28,29,30] aj ?_|refine aS (id:=26) ah mixed [] [0,1,2,3,4,5,6,7,8,9,10,11,12,13,14,15,16,17,18,19,20,21,22,23,24,25,26,27,28,29,30,31,32,33,34,35,36,37,38,39,40,41,42] aj ?_);intro w aR;replace H:=Rel.ext H aR.ext;refine wk ?_;exact H.sx
  by_cases g4:191<at8 L 2
  ·rw[bad (by rw[u,if_pos aa])];refine H.wg ?_;clear H;intro w H;(first|refine aS (id:=8) ah mixed [] [0,1,2,3,4,6,7,5,8,9,10,11,12] aj ?_|refine aS (id:=10) ah mixed [] [0,1,2,3,4,6,7,10,11,13,14,5,8,9,12,15,16,17,18,19,20] aj ?_|refine aS (id:=18) ah mixed [] [0,1,2,3,4,5,6,7,8,9,10,11,12,13,14,15,16,17,18] aj ?_|refine aS (id:=22) ah mixed [] [0,1,2,3,4,5,6,7,8,9,10,11,12,13,14,15,16,17,18,19,20,21,22,23,24,25,26,27,28,29,30] aj ?_|refine aS (id:=26) ah mixed [] [0,1,2,3,4,5,6,7,8,9,10,11,12,13,14,15,16,17,18,19,20,21,22,23,24,25,26,27,28,29,30,31,32,33,34,35,36,37,38,39,40,41,42] aj ?_);intro w aR;replace H:=Rel.ext H aR.ext;refine wk ?_;exact H.sx
  refine H.wg ?_;clear H;intro w H;(first|refine aS (id:=8) ah mixed [] [0,1,2,3,4,6,7,5,8,9,10,11,12] aj ?_|refine aS (id:=10) ah mixed [] [0,1,2,3,4,6,7,10,11,13,14,5,8,9,12,15,16,17,18,19,20] aj ?_|refine aS (id:=18) ah mixed [] [0,1,2,3,4,5,6,7,8,9,10,11,12,13,14,15,16,17,18] aj ?_|refine aS (id:=22) ah mixed [] [0,1,2,3,4,5,6,7,8,9,10,11,12,13,14,15,16,17,18,19,20,21,22,23,24,25,26,27,28,29,30] aj ?_|refine aS (id:=26) ah mixed [] [0,1,2,3,4,5,6,7,8,9,10,11,12,13,14,15,16,17,18,19,20,21,22,23,24,25,26,27,28,29,30,31,32,33,34,35,36,37,38,39,40,41,42] aj ?_);intro w aR;replace H:=Rel.ext H aR.ext;refine wk ?_;exact⟨sB,(⟨aU p.a 3 p.cap 1,p.len-3,p.cap-3⟩,L.drop 3),sB,⟨good 3 aa aa (by rw[u,if_neg aa]),H.sx⟩,by dsimp only;rw[bd];omega⟩
 by_cases s4:sz=4
 ·have u:∀ {a b c d:Nat},Lib.checkN a b c d sz lo hi=if a<4\/b<lo\/hi<b\/c<128\/191<c\/d<128\/191<d then none else some 4:=λ{a b c d}=>by unfold Lib.checkN;rw[if_neg s2,if_neg s3,if_pos s4]
  by_cases h2:L.length<4
  ·rw[bad (by rw[u,if_pos aa])];refine H.wg ?_;clear H;intro w H;(first|refine aS (id:=8) ah mixed [] [0,1,2,3,4,6,7,5,8,9,10,11,12] aj ?_|refine aS (id:=10) ah mixed [] [0,1,2,3,4,6,7,10,11,13,14,5,8,9,12,15,16,17,18,19,20] aj ?_|refine aS (id:=18) ah mixed [] [0,1,2,3,4,5,6,7,8,9,10,11,12,13,14,15,16,17,18] aj ?_|refine aS (id:=22) ah mixed [] [0,1,2,3,4,5,6,7,8,9,10,11,12,13,14,15,16,17,18,19,20,21,22,23,24,25,26,27,28,29,30] aj ?_|refine aS (id:=26) ah mixed [] [0,1,2,3,4,5,6,7,8,9,10,11,12,13,14,15,16,17,18,19,20,21,22,23,24,25,26,27,28,29,30,31,32,33,34,35,36,37,38,39,40,41,42] aj ?_);intro w aR;replace H:=Rel.ext H aR.ext;refine wk ?_;exact H.sx
  obtain⟨q1,d1⟩:=wU hp (i:=1) aa;obtain⟨q2,d2⟩:=wU hp (i:=2) aa;obtain⟨q3,d3⟩:=wU hp (i:=3) aa;refine H.wg ?_;clear H;intro w H;(first|refine aS (id:=8) ah mixed [] [0,1,2,3,4,6,7,5,8,9,10,11,12] aj ?_|refine aS (id:=10) ah mixed [] [0,1,2,3,4,6,7,10,11,13,14,5,8,9,12,15,16,17,18,19,20] aj ?_|refine aS (id:=18) ah mixed [] [0,1,2,3,4,5,6,7,8,9,10,11,12,13,14,15,16,17,18] aj ?_|refine aS (id:=22) ah mixed [] [0,1,2,3,4,5,6,7,8,9,10,11,12,13,14,15,16,17,18,19,20,21,22,23,24,25,26,27,28,29,30] aj ?_|refine aS (id:=26) ah mixed [] [0,1,2,3,4,5,6,7,8,9,10,11,12,13,14,15,16,17,18,19,20,21,22,23,24,25,26,27,28,29,30,31,32,33,34,35,36,37,38,39,40,41,42] aj ?_);intro w aR;replace H:=Rel.ext H aR.ext;refine wk ?_;refine gI (λg1=>?_) (λg1=>?_)
  ·rw[bad (by rw[u,if_pos aa])];refine wk ?_;exact H.sx
  refine wk ?_;refine gI (λg2=>?_) (λg2=>?_)
  ·rw[bad (by rw[u,if_pos aa])];refine wk ?_;exact H.sx
  refine wk ?_;refine gI (λg3=>?_) (λg3=>?_)
  ·rw[bad (by rw[u,if_pos aa])];refine wk ?_;exact H.sx
  refine wk ?_;refine gI (λg4=>?_) (λg4=>?_)
  ·rw[bad (by rw[u,if_pos aa])];refine wk ?_;exact H.sx
  refine wk ?_;refine gI (λg5=>?_) (λg5=>?_)
  ·rw[bad (by rw[u,if_pos aa])];refine wk ?_;exact H.sx
  refine wk ?_;refine gI (λg6=>?_) (λg6=>?_)
  ·rw[bad (by rw[u,if_pos aa])];refine wk ?_;exact H.sx
  refine wk ?_;exact⟨sB,(⟨aU p.a 4 p.cap 1,p.len-4,p.cap-4⟩,L.drop 4),sB,⟨good 4 aa aa (by rw[u,if_neg aa]),H.sx⟩,by dsimp only;rw[bd];omega⟩
 have u:Lib.checkN L.length (at8 L 1) (at8 L 2) (at8 L 3) sz lo hi=none:=by unfold Lib.checkN;rw[if_neg s2,if_neg s3,if_neg s4]
 rw[bad u];refine H.wg ?_;clear H;intro w H;exact H.sx
end
theorem pg(o:au):List.flatMap bM (o++[10])=List.flatMap bM o++[10]:=by rw[bT];rfl
def lQ(rs:List dA)(k:Nat):List dA:=match rs with
 | []=>[(k,1)]
 | [(j,n)]=>if j=k then[(j,n+1)]else[(j,n),(k,1)]
 | r::x::rs=>r::lQ (x::rs) k
theorem Dx:∀(rs:List dA) (j n k:Nat),lQ (rs++[(j,n)]) k=if j=k then rs++[(j,n+1)]else rs++[(j,n),(k,1)]
 | [],j,n,k=>by simp only[aA,lQ]
 | [r],j,n,k=>by
  show r::lQ [(j,n)] k=_;rw[show lQ [(j,n)] k=if j=k then[(j,n+1)]else[(j,n),(k,1)]from rfl];split<;>rfl
 | r::x::rs,j,n,k=>by
  have:=Dx (x::rs) j n k;show r::lQ (x::rs++[(j,n)]) k=_;rw[this];split<;>rfl
def yo(k:Nat):List dA->List dA
 | (j,n)::r=>if k=j then(j,n+1)::r else(k,1)::(j,n)::r
 | []=>[(k,1)]
theorem Up(k:Nat)(ks:au):dG (k::ks)=yo k (dG ks):=by
 rw[dG];cases dG ks with
 | nil=>rfl
 | cons x r=>rfl
theorem acU(a k:Nat):∀rs:List dA,yo a (lQ rs k)=lQ (yo a rs) k
 | []=>by
  show yo a [(k,1)]=lQ [(a,1)] k;show(if a=k then[(k,2)]else[(a,1),(k,1)])=if a=k then[(a,2)]else[(a,1),(k,1)]
  split
  ·rename_i h;rw[h]
  ·rfl
 | [(j,n)]=>by
  show yo a (if j=k then[(j,n+1)]else[(j,n),(k,1)])=lQ (if a=j then[(j,n+1)]else[(a,1),(j,n)]) k;by_cases h1:j=k<;>by_cases h2:a=j<;>simp[yo,lQ,h1,h2];all_goals (try subst h1);(try subst h2);(try simp_all)
  all_goals (show _=(_,1)::(if _=_ then _ else _);simp)
 | (j,n)::x::rs=>by
  show yo a ((j,n)::lQ (x::rs) k)=lQ (if a=j then(j,n+1)::x::rs else(a,1)::(j,n)::x::rs) k;by_cases h2:a=j
  ·rw[if_pos h2];show(if a=j then(j,n+1)::lQ (x::rs) k else _)=_;rw[if_pos h2];rfl
  ·rw[if_neg h2];show(if a=j then _ else(a,1)::(j,n)::lQ (x::rs) k)=_;rw[if_neg h2];rfl
theorem uw:∀(ks:au) (k:Nat),dG (ks++[k])=lQ (dG ks) k
 | [],k=>rfl
 | a::ks,k=>by rw[aL,Up,uw ks k,Up,acU]
theorem G5(l:List α):l=[]\/∃i x,l=i++[x]:=by
 rcases List.eq_nil_or_concat l with h|⟨i,x,h⟩
 ·exact .inl h
 ·exact .inr ⟨i,x,by simpa using h⟩
theorem Rel.yS{w0 V0 w:ae}(H:Rel w0 V0 own V w){i sz:Nat}{s:Sl}{e:TypeId}{xs:aD}(hi:own[i]?=some (.row s e sz xs))(j:Nat)(hj:j<s.len*sz){b o:Nat}(hb:b=bD s.a)(ho:o=bw s.a+j){v:ao}{k:ae->Prop}
  (hk:∀w',Rel w0 V0 (own.set i (.row s e sz (xs.set j v))) V w'->k w'):∃c t',nR w b c t'/\fS c o [v] λc'=>∀w',ma w b c' t' w'->k w':=by
 have hr:=H.rowAt hi;rcases hr.at_ with⟨_,h2,_⟩|⟨b0,cur,h1,h2,h3,h4,h5,h6⟩
 ·rw[h2,yG]at hj;omega
 ·rw[h1]at hb ho;simp only[bD,bw,dU]at hb ho;subst hb ho;have hbl:nR w b cur.toList e:=h2;have hle:=Nat.mul_le_mul_right sz h3;refine⟨cur.toList,e,hbl,GJ (by rw[Array.length_toList,h5];omega) λw' hu=>hk w' ?_⟩;have hu':=hu;obtain⟨fz,cs,vx,rfl⟩:=hu.wd;refine H.put hi rfl rfl rfl ai (λk _ hk=>hu'.other λe=>hk (by rw[e];simp[aN.at_,h1])) ⟨by rw[List.length_set,hr.len],.inr ⟨b,(cur.toList.set o v).toArray,h1,hu'.row hbl ai,h3,h4,by simp[h5],?_⟩⟩ λk hk=>.inl hk;rw[<-h6];simp[List.take_set]
theorem GU(rs:List dA)(j n:Nat):((aZ (rs++[(j,n)])).flatMap eO).set (rs.length*2+1) (iv ((n:Int)+1))=(aZ (rs++[(j,n+1)])).flatMap eO:=by
 have hl:((aZ rs).flatMap eO).length=rs.length*2:=by rw[pf (n:=2) (λ_=>rfl)];simp[aZ]
 unfold aZ;rw[eZ,bT,eZ,bT];unfold aZ at hl;rw[List.set_append_right _ _ aa,hl,show rs.length*2+1-rs.length*2=1 by omega];rfl
structure WU(W V:ae)(l:au)(v:ao)(w':ae):Prop where
 ex:∃(V':ae) (r q:Sl),Sub V V'/\Rel W V [] V' w'/\v=.tuple #[r.v,q.v]/\ay V' r ((lines l).1.flatMap bM)/\aB eO V' q (aZ (dG (lines l).2))
section
variable{V W:ae}
theorem ad9(hV:Sub V W){s:Sl}{l:au}(hs:aB ew V s l)(hl:l.length<=100000)(hc:∀c∈l,dX c):aC 122 [s.v] W (WU W V l):=by
 have H:=Rel.start hV;have hlen:=hs.len;refine eV Tryz.func122 95 [0,2,3,4,5,6,7,8,12,26,33,56,78] ?_;refine wk ?_;replace H:=H.cb 250 2;replace H:=H.cb 5 1
 refine aY (S:=Nat×Sl×Sl×au×au) ah [0,2,3] (λq=>[(4,q.2.1.v),(5,q.2.2.1.v),(6,iv q.1)])
  (λq w'=>q.1<=l.length/\lines l=(q.2.2.2.1++(lines (l.drop q.1)).1,q.2.2.2.2++(lines (l.drop q.1)).2)/\(q.2.2.2.1.flatMap bM).length<=4*q.1/\q.2.2.2.2.length<=q.1/\Rel W V [.row q.2.1 5 1 ((q.2.2.2.1.flatMap bM).flatMap aE),.row q.2.2.1 250 2 ((aZ (dG q.2.2.2.2)).flatMap eO)] V w') (λq _=>l.length-q.1) (0,⟨none,0,0⟩,⟨none,0,0⟩,[],[]) ?_
 conv=>whnf
 refine⟨sB,⟨aa,rfl,aK _,aK _,H⟩,?_⟩;clear H;rintro⟨i,r4,r5,o,ks⟩w⟨hi,fu,gV,fP,H⟩;dsimp only at hi fu gV fP H |-;have hrl:=(uv ks).2.2.2.2;have hns:∀rs j n,dG ks=rs++[(j,n)]->n<=ks.length:=λrs j n h=>by
  have:=(uv ks).2.2.2.1;rw[h]at this;simp[iE]at this;omega
 by_cases hlt:i<l.length;rotate_left
 ·rw[pW aa]at fu;simp only[lines,cm]at fu;obtain⟨V2,hV2,H,h4⟩:=Rel.aT H (λ_=>rfl) ag;obtain⟨V3,aw,H,h5⟩:=Rel.aT H (λ_=>rfl) ag;refine wk ?_;refine⟨V3,r4,r5,hV2.trans aw,H.sx,rfl,?_,?_⟩
  ·rw[fu];exact h4.up aw
  ·rw[fu];exact h5
 obtain⟨p0,c0⟩:=hs.aX (g:=rv) (λ_=>rfl) hlt;have jS:l.drop i=l[i]::l.drop (i+1):=j4 hlt;have hch:=hc l[i] (cj hlt);obtain⟨c,hcc⟩:∃c,c=l[i]:=⟨_,rfl⟩
 rw[<-hcc]at c0 jS hch;rw[jS]at fu;have Rj:=qd c;by_cases lD:c=10
 ·subst lD;have e:=FK (l.drop (i+1));refine H.wg ?_;clear H;intro _ w H;refine Rel.dC (f:=aE) (l:=o.flatMap bM) (x:=10) ah rfl rfl rfl rfl rfl ag (λ_=>rfl) (bj.1 rfl) H (by show((o.flatMap bM).length+1)*1<=_;omega) aa ?_;clear H;intro r4 w H;have mA:=H.gn (i:=1) rfl (λ_=>rfl) ag;have eE:(aZ (dG ks)).length=(dG ks).length:=by simp[aZ]
  refine wk ?_;rcases G5 (dG ks)with hrs|⟨rs,⟨j,n⟩,hrs⟩
  ·rw[hrs]at eE mA H;simp only[aZ,kx,aI]at eE mA;refine H.wg ?_;clear H;intro _ w H;refine Rel.dI (f:=eO) (l:=[]) (x:=fJ (0,1)) ah rfl rfl rfl rfl rfl ag (λ_=>rfl) (bj.1 rfl) H ai ai ?_;clear H;intro r5 w H;refine wk ?_;refine⟨sB,(i+1,r4,r5,o++[10],ks++[0]),⟨rfl,rfl,congrArg (λz=>some (iv z)) (by dsimp only;omega),trivial⟩,⟨by dsimp only;omega,by dsimp only;rw[fu,e];simp,by dsimp only;rw[bT,aq];have:([10].flatMap bM).length=1:=rfl;omega,by dsimp only;rw[aq,cQ];omega,?_⟩,by dsimp only;omega⟩;dsimp only;rw[pg];rw[uw,hrs];exact H
  ·rw[hrs]at eE mA H;rw[hrs]at hrl;simp only[aq,cQ]at eE hrl;have S5:=H.eG (i:=1) rfl (λ_=>rfl) ag;obtain⟨u0,u1,u2⟩:=S5.fM (g:=λr:bQ=>iv r.1) (g':=λr:bQ=>iv r.2) (λ_=>rfl) (i:=rs.length) aa;have gd:(aZ (rs++[(j,n)]))[rs.length]'(by omega)=fJ (j,n):=by simp[aZ]
   rw[gd]at u1 u2;dsimp only[fJ]at u1 u2;have hnn:=hns rs j n hrs;have ej:((r5.len:Int)-1)=((rs.length:Nat):Int):=aa;refine wk ?_;rw[ej];refine wk ?_;have hps:=uw ks 0;rw[hrs,Dx]at hps;by_cases og:j=0
   ·rw[if_pos og]at hps;refine wk ?_;rw[ej];refine wk ?_;refine Rel.yS (i:=1) H rfl (rs.length*2+1) aa rfl rfl ?_;clear H;intro w H;simp only[iR,bC]at H;rw[GU,<-hps]at H;refine wk ?_;refine⟨sB,(i+1,r4,r5,o++[10],ks++[0]),⟨rfl,rfl,congrArg (λz=>some (iv z)) (by dsimp only;omega),trivial⟩,⟨by dsimp only;omega,by dsimp only;rw[fu,e];simp,by dsimp only;rw[bT,aq];have:([10].flatMap bM).length=1:=rfl;omega,by dsimp only;rw[aq,cQ];omega,?_⟩,by dsimp only;omega⟩;dsimp only;rw[pg];exact H
   ·rw[if_neg og]at hps;refine H.wg ?_;clear H;intro _ w H;refine Rel.dI (f:=eO) (l:=aZ (rs++[(j,n)])) (x:=fJ (0,1)) ah rfl rfl rfl rfl rfl ag (λ_=>rfl) (bj.1 rfl) H (by show((aZ (rs++[(j,n)])).length+1)*16<=_;omega) aa ?_;clear H;intro r5 w H;rw[show aZ (rs++[(j,n)])++[fJ (0,1)]=aZ (rs++[(j,n),(0,1)])by simp[aZ],<-hps]at H;refine wk ?_;refine⟨sB,(i+1,r4,r5,o++[10],ks++[0]),⟨rfl,rfl,congrArg (λz=>some (iv z)) (by dsimp only;omega),trivial⟩,⟨by dsimp only;omega,by dsimp only;rw[fu,e];simp,by dsimp only;rw[bT,aq];have:([10].flatMap bM).length=1:=rfl;omega,by dsimp only;rw[aq,cQ];omega,?_⟩,by dsimp only;omega⟩;dsimp only;rw[pg];exact H
 by_cases Jb:c=13;rotate_left
 ·have e:=FL lD Jb (l.drop (i+1));rw[e]at fu;refine wk ?_;refine(BI H hch aa).use ?_;clear H;rintro v w⟨r,rfl,H⟩;refine wk ?_;refine⟨sB,(i+1,r,r5,o++[c],ks),sB,⟨by dsimp only;omega,?_,?_,by dsimp only;omega,?_⟩,by dsimp only;omega⟩
  ·dsimp only;rw[fu];simp
  ·dsimp only;rw[bT,aq,Gt,yY];omega
  ·dsimp only;rw[bT,Gt];exact H
 subst Jb;by_cases jc:i+1<l.length;rotate_left
 ·rw[pW (show l.length<=i+1 by omega)]at fu;have e:=Da (r:=[]) ai;have e2:l.drop (i+1)=[]:=pW aa;rw[<-e2]at fu e;refine H.wg ?_;clear H;intro _ w H;refine Rel.dC (f:=aE) (l:=o.flatMap bM) (x:=10) ah rfl rfl rfl rfl rfl ag (λ_=>rfl) (bj.1 rfl) H (by show((o.flatMap bM).length+1)*1<=_;omega) aa ?_;clear H;intro r4 w H;have mA:=H.gn (i:=1) rfl (λ_=>rfl) ag;have eE:(aZ (dG ks)).length=(dG ks).length:=by simp[aZ]
  refine wk ?_;rcases G5 (dG ks)with hrs|⟨rs,⟨j,n⟩,hrs⟩
  ·rw[hrs]at eE mA H;simp only[aZ,kx,aI]at eE mA;refine H.wg ?_;clear H;intro _ w H;refine Rel.dI (f:=eO) (l:=[]) (x:=fJ (2,1)) ah rfl rfl rfl rfl rfl ag (λ_=>rfl) (bj.1 rfl) H ai ai ?_;clear H;intro r5 w H;refine wk ?_;refine⟨sB,(i+1,r4,r5,o++[10],ks++[2]),⟨rfl,rfl,congrArg (λz=>some (iv z)) (by dsimp only;omega),trivial⟩,⟨by dsimp only;omega,by dsimp only;rw[fu,e];simp,by dsimp only;rw[bT,aq];have:([10].flatMap bM).length=1:=rfl;omega,by dsimp only;rw[aq,cQ];omega,?_⟩,by dsimp only;omega⟩;dsimp only;rw[pg];rw[uw,hrs];exact H
  ·rw[hrs]at eE mA H;rw[hrs]at hrl;simp only[aq,cQ]at eE hrl;have S5:=H.eG (i:=1) rfl (λ_=>rfl) ag;obtain⟨u0,u1,u2⟩:=S5.fM (g:=λr:bQ=>iv r.1) (g':=λr:bQ=>iv r.2) (λ_=>rfl) (i:=rs.length) aa;have gd:(aZ (rs++[(j,n)]))[rs.length]'(by omega)=fJ (j,n):=by simp[aZ]
   rw[gd]at u1 u2;dsimp only[fJ]at u1 u2;have hnn:=hns rs j n hrs;have ej:((r5.len:Int)-1)=((rs.length:Nat):Int):=aa;refine wk ?_;rw[ej];refine wk ?_;have hps:=uw ks 2;rw[hrs,Dx]at hps;by_cases og:j=2
   ·rw[if_pos og]at hps;refine wk ?_;rw[ej];refine wk ?_;refine Rel.yS (i:=1) H rfl (rs.length*2+1) aa rfl rfl ?_;clear H;intro w H;simp only[iR,bC]at H;rw[GU,<-hps]at H;refine wk ?_;refine⟨sB,(i+1,r4,r5,o++[10],ks++[2]),⟨rfl,rfl,congrArg (λz=>some (iv z)) (by dsimp only;omega),trivial⟩,⟨by dsimp only;omega,by dsimp only;rw[fu,e];simp,by dsimp only;rw[bT,aq];have:([10].flatMap bM).length=1:=rfl;omega,by dsimp only;rw[aq,cQ];omega,?_⟩,by dsimp only;omega⟩;dsimp only;rw[pg];exact H
   ·rw[if_neg og]at hps;refine H.wg ?_;clear H;intro _ w H;refine Rel.dI (f:=eO) (l:=aZ (rs++[(j,n)])) (x:=fJ (2,1)) ah rfl rfl rfl rfl rfl ag (λ_=>rfl) (bj.1 rfl) H (by show((aZ (rs++[(j,n)])).length+1)*16<=_;omega) aa ?_;clear H;intro r5 w H;rw[show aZ (rs++[(j,n)])++[fJ (2,1)]=aZ (rs++[(j,n),(2,1)])by simp[aZ],<-hps]at H;refine wk ?_;refine⟨sB,(i+1,r4,r5,o++[10],ks++[2]),⟨rfl,rfl,congrArg (λz=>some (iv z)) (by dsimp only;omega),trivial⟩,⟨by dsimp only;omega,by dsimp only;rw[fu,e];simp,by dsimp only;rw[bT,aq];have:([10].flatMap bM).length=1:=rfl;omega,by dsimp only;rw[aq,cQ];omega,?_⟩,by dsimp only;omega⟩;dsimp only;rw[pg];exact H
 obtain⟨p1,c1⟩:=hs.aX (g:=rv) (λ_=>rfl) jc;have Fj:l.drop (i+1)=l[i+1]::l.drop (i+2):=j4 jc;obtain⟨d,vi⟩:∃d,d=l[i+1]:=⟨_,rfl⟩
 rw[<-vi]at c1 Fj;by_cases hd:d=10
 ·rw[hd]at c1 Fj;rw[Fj]at fu;have e:=FJ (l.drop (i+2));refine H.wg ?_;clear H;intro _ w H;refine Rel.dC (f:=aE) (l:=o.flatMap bM) (x:=10) ah rfl rfl rfl rfl rfl ag (λ_=>rfl) (bj.1 rfl) H (by show((o.flatMap bM).length+1)*1<=_;omega) aa ?_;clear H;intro r4 w H;have mA:=H.gn (i:=1) rfl (λ_=>rfl) ag;have eE:(aZ (dG ks)).length=(dG ks).length:=by simp[aZ]
  refine wk ?_;rcases G5 (dG ks)with hrs|⟨rs,⟨j,n⟩,hrs⟩
  ·rw[hrs]at eE mA H;simp only[aZ,kx,aI]at eE mA;refine H.wg ?_;clear H;intro _ w H;refine Rel.dI (f:=eO) (l:=[]) (x:=fJ (1,1)) ah rfl rfl rfl rfl rfl ag (λ_=>rfl) (bj.1 rfl) H ai ai ?_;clear H;intro r5 w H;refine wk ?_;refine⟨sB,(i+2,r4,r5,o++[10],ks++[1]),⟨rfl,rfl,congrArg (λz=>some (iv z)) (by dsimp only;omega),trivial⟩,⟨by dsimp only;omega,by dsimp only;rw[fu,e];simp,by dsimp only;rw[bT,aq];have:([10].flatMap bM).length=1:=rfl;omega,by dsimp only;rw[aq,cQ];omega,?_⟩,by dsimp only;omega⟩;dsimp only;rw[pg];rw[uw,hrs];exact H
  ·rw[hrs]at eE mA H;rw[hrs]at hrl;simp only[aq,cQ]at eE hrl;have S5:=H.eG (i:=1) rfl (λ_=>rfl) ag;obtain⟨u0,u1,u2⟩:=S5.fM (g:=λr:bQ=>iv r.1) (g':=λr:bQ=>iv r.2) (λ_=>rfl) (i:=rs.length) aa;have gd:(aZ (rs++[(j,n)]))[rs.length]'(by omega)=fJ (j,n):=by simp[aZ]
   rw[gd]at u1 u2;dsimp only[fJ]at u1 u2;have hnn:=hns rs j n hrs;have ej:((r5.len:Int)-1)=((rs.length:Nat):Int):=aa;refine wk ?_;rw[ej];refine wk ?_;have hps:=uw ks 1;rw[hrs,Dx]at hps;by_cases og:j=1
   ·rw[if_pos og]at hps;refine wk ?_;rw[ej];refine wk ?_;refine Rel.yS (i:=1) H rfl (rs.length*2+1) aa rfl rfl ?_;clear H;intro w H;simp only[iR,bC]at H;rw[GU,<-hps]at H;refine wk ?_;refine⟨sB,(i+2,r4,r5,o++[10],ks++[1]),⟨rfl,rfl,congrArg (λz=>some (iv z)) (by dsimp only;omega),trivial⟩,⟨by dsimp only;omega,by dsimp only;rw[fu,e];simp,by dsimp only;rw[bT,aq];have:([10].flatMap bM).length=1:=rfl;omega,by dsimp only;rw[aq,cQ];omega,?_⟩,by dsimp only;omega⟩;dsimp only;rw[pg];exact H
   ·rw[if_neg og]at hps;refine H.wg ?_;clear H;intro _ w H;refine Rel.dI (f:=eO) (l:=aZ (rs++[(j,n)])) (x:=fJ (1,1)) ah rfl rfl rfl rfl rfl ag (λ_=>rfl) (bj.1 rfl) H (by show((aZ (rs++[(j,n)])).length+1)*16<=_;omega) aa ?_;clear H;intro r5 w H;rw[show aZ (rs++[(j,n)])++[fJ (1,1)]=aZ (rs++[(j,n),(1,1)])by simp[aZ],<-hps]at H;refine wk ?_;refine⟨sB,(i+2,r4,r5,o++[10],ks++[1]),⟨rfl,rfl,congrArg (λz=>some (iv z)) (by dsimp only;omega),trivial⟩,⟨by dsimp only;omega,by dsimp only;rw[fu,e];simp,by dsimp only;rw[bT,aq];have:([10].flatMap bM).length=1:=rfl;omega,by dsimp only;rw[aq,cQ];omega,?_⟩,by dsimp only;omega⟩;dsimp only;rw[pg];exact H
 ·have e:=Da (r:=l.drop (i+1)) (λk h=>by rw[Fj]at h;injection h with h _;exact hd h);refine H.wg ?_;clear H;intro _ w H;refine Rel.dC (f:=aE) (l:=o.flatMap bM) (x:=10) ah rfl rfl rfl rfl rfl ag (λ_=>rfl) (bj.1 rfl) H (by show((o.flatMap bM).length+1)*1<=_;omega) aa ?_;clear H;intro r4 w H;have mA:=H.gn (i:=1) rfl (λ_=>rfl) ag;have eE:(aZ (dG ks)).length=(dG ks).length:=by simp[aZ]
  refine wk ?_;rcases G5 (dG ks)with hrs|⟨rs,⟨j,n⟩,hrs⟩
  ·rw[hrs]at eE mA H;simp only[aZ,kx,aI]at eE mA;refine H.wg ?_;clear H;intro _ w H;refine Rel.dI (f:=eO) (l:=[]) (x:=fJ (2,1)) ah rfl rfl rfl rfl rfl ag (λ_=>rfl) (bj.1 rfl) H ai ai ?_;clear H;intro r5 w H;refine wk ?_;refine⟨sB,(i+1,r4,r5,o++[10],ks++[2]),⟨rfl,rfl,congrArg (λz=>some (iv z)) (by dsimp only;omega),trivial⟩,⟨by dsimp only;omega,by dsimp only;rw[fu,e];simp,by dsimp only;rw[bT,aq];have:([10].flatMap bM).length=1:=rfl;omega,by dsimp only;rw[aq,cQ];omega,?_⟩,by dsimp only;omega⟩;dsimp only;rw[pg];rw[uw,hrs];exact H
  ·rw[hrs]at eE mA H;rw[hrs]at hrl;simp only[aq,cQ]at eE hrl;have S5:=H.eG (i:=1) rfl (λ_=>rfl) ag;obtain⟨u0,u1,u2⟩:=S5.fM (g:=λr:bQ=>iv r.1) (g':=λr:bQ=>iv r.2) (λ_=>rfl) (i:=rs.length) aa;have gd:(aZ (rs++[(j,n)]))[rs.length]'(by omega)=fJ (j,n):=by simp[aZ]
   rw[gd]at u1 u2;dsimp only[fJ]at u1 u2;have hnn:=hns rs j n hrs;have ej:((r5.len:Int)-1)=((rs.length:Nat):Int):=aa;refine wk ?_;rw[ej];refine wk ?_;have hps:=uw ks 2;rw[hrs,Dx]at hps;by_cases og:j=2
   ·rw[if_pos og]at hps;refine wk ?_;rw[ej];refine wk ?_;refine Rel.yS (i:=1) H rfl (rs.length*2+1) aa rfl rfl ?_;clear H;intro w H;simp only[iR,bC]at H;rw[GU,<-hps]at H;refine wk ?_;refine⟨sB,(i+1,r4,r5,o++[10],ks++[2]),⟨rfl,rfl,congrArg (λz=>some (iv z)) (by dsimp only;omega),trivial⟩,⟨by dsimp only;omega,by dsimp only;rw[fu,e];simp,by dsimp only;rw[bT,aq];have:([10].flatMap bM).length=1:=rfl;omega,by dsimp only;rw[aq,cQ];omega,?_⟩,by dsimp only;omega⟩;dsimp only;rw[pg];exact H
   ·rw[if_neg og]at hps;refine H.wg ?_;clear H;intro _ w H;refine Rel.dI (f:=eO) (l:=aZ (rs++[(j,n)])) (x:=fJ (2,1)) ah rfl rfl rfl rfl rfl ag (λ_=>rfl) (bj.1 rfl) H (by show((aZ (rs++[(j,n)])).length+1)*16<=_;omega) aa ?_;clear H;intro r5 w H;rw[show aZ (rs++[(j,n)])++[fJ (2,1)]=aZ (rs++[(j,n),(2,1)])by simp[aZ],<-hps]at H;refine wk ?_;refine⟨sB,(i+1,r4,r5,o++[10],ks++[2]),⟨rfl,rfl,congrArg (λz=>some (iv z)) (by dsimp only;omega),trivial⟩,⟨by dsimp only;omega,by dsimp only;rw[fu,e];simp,by dsimp only;rw[bT,aq];have:([10].flatMap bM).length=1:=rfl;omega,by dsimp only;rw[aq,cQ];omega,?_⟩,by dsimp only;omega⟩;dsimp only;rw[pg];exact H
end
section
variable{V W:ae}
theorem aga(x:bQ)(h1:dx x.1)(h2:dx x.2):uK V 198 [] (.agg (eO x).toArray) (gZ x):=F0 λV1 W1 hV fg=>by
 have H:=Rel.start hV;have a1:=fj h1.1 h1.2;have a2:=fj h2.1 h2.2;refine eV Tryz.func198 10 [0,1,2] ?_;refine wk ?_;refine H.nA ?_;clear H;intro w b1 H;refine wk ?_;(first|refine aS (id:=1) ah mixed [2] [0,1,3,4,2,5,6,7] aj ?_);intro w aR;replace H:=Rel.ext H aR.ext;refine wk ?_;refine(iQ H.data h1).use ?_;rintro v w⟨r1,rfl,K⟩;(replace H:=Rel.call H K);simp only[aL,aA]at H;refine wk ?_;refine(iQ H.data h2).use ?_;rintro v w⟨r2,rfl,K⟩;(replace H:=Rel.call H K);simp only[aL,aA]at H;refine wk ?_;refine Rel.dD (s:=r1) (x:=r2) (xs:=aM x.1) (ys:=aM x.2) H (i:=0) rfl aa ?_;clear H;intro rn w H;simp only[bC]at H;refine wk ?_;exact⟨rn,rfl,H.sx⟩
theorem agD{W:ae}(hV:Sub V W){s:Sl}{l:List bQ}(hs:aB eO V s l){g:FuncId}{cap:aD}{enc:bQ->ad}(hone:∀x∈l,uK V g cap ((λp=>.agg (eO p).toArray) x) (enc x))(hll:l.length<=1099511627776)(hb:(bY enc l).length<=1099511627776) :
  aC 197 [s.v,.func (.func g) #[] cap.toArray] W λv w'=>∃r:Sl,v=r.v/\Rel W V [.row r 5 1 ((bY enc l).flatMap aE)] V w':=by
 have H:=Rel.start hV;have hlen:=hs.len;rw[bY,aq]at hb;refine eV Tryz.func197 24 [0,1,4,5,7,11,12,13,14] ?_;refine wk ?_;rw[hlen];refine(iQ (n:=l.length) H.data (by constructor<;>omega)).use ?_;rintro v w⟨r0,rfl,K⟩;replace H:=H.call K;refine wk ?_;refine aY (S:=Nat×Sl) ah [0,1,4,11,12] (λk=>[(5,k.2.v),(13,iv k.1)]) (λk w'=>k.1<=l.length/\∃V1,Sub V V1/\Rel W V [.row k.2 5 1 ((aM l.length++(l.take k.1).flatMap enc).flatMap aE)] V1 w') (λk _=>l.length-k.1) (0,r0) ?_;conv=>whnf
 refine⟨sB,⟨aa,V,Sub.refl _,by simpa using H⟩,?_⟩;clear H;rintro⟨k,r⟩w⟨hk,V1,hV1,H⟩;dsimp only at hk H;by_cases hlt:k<l.length;rotate_left
 ·refine wk ?_;rw[bR aa]at H;exact⟨r,rfl,H.back⟩
 have hbl:=EW (enc:=enc) hlt;obtain⟨hp,nk,jy⟩:=(hs.up hV1).fM (g:=λr:bQ=>iv r.1) (g':=λr:bQ=>iv r.2) (λ_=>rfl) hlt;refine H.wg ?_;clear H;intro _ _ w H;refine(hone l[k] (cj hlt) V1 w hV1 H.data).use ?_;rintro v w⟨V2,x,hV2,rfl,hx,K⟩;replace H:=H.call K;simp only[aA]at H;refine wk ?_;refine Rel.eJ H (i:=1) rfl hx (by simp only[aq];omega) ?_;clear H;intro rn w H;rw[EV hlt]at H;refine wk ?_;exact⟨sB,(k+1,rn),sB,⟨aa,V2,hV1.trans hV2,H.sx⟩,aa⟩
theorem ZZ(hV:Sub V W){e:Nat}(he:e<5){s:Sl}{rs:List dA}(hs:aB eO V s (aZ rs))(hl:rs.length<=100000)(ho:∀r∈rs,r.1<3/\1<=r.2/\r.2<=100000) :
  aC 123 [.agg (vY e s).toArray] W λv w'=>∃r:Sl,v=r.v/\Rel W V [.row r 5 1 ((if iu e (dN rs)=true then[]else rE e rs).flatMap aE)] V w':=by
 have H:=Rel.start hV;have eE:(aZ rs).length=rs.length:=by simp[aZ]
 have a1:=fj (n:=(e:Int)) aa aa;have hpl:=vI (f:=gZ) (m:=20) (l:=aZ rs) aa (λx hx=>by
  obtain⟨y,hy,rfl⟩:=cG.1 hx;obtain⟨q1,q2,q3⟩:=ho y hy;have b1:=fj (n:=(y.1:Int)) aa aa;have b2:=fj (n:=(y.2:Int)) aa aa;simp only[gZ,aq];omega)
 refine eV Tryz.func123 12 [0,1,2,4] ?_;refine wk ?_;refine H.nA ?_;clear H;intro w b1 H;refine wk ?_;refine(Hg H.data e hs aa (λr hr=>(ho r hr).2.1)).use ?_;rintro v w⟨rfl,K⟩;(replace H:=H.az K);cases ht:iu e (dN rs)with
 | true =>
  rw[if_pos rfl];refine wk ?_;exact⟨⟨none,0,0⟩,rfl,Rel.cb H.sx _ _⟩
 | false =>
  rw[if_neg ai];refine wk ?_;(first|refine aS (id:=3) ah mixed [2] [0,1,3,4,2,5,6,7] aj ?_);intro w aR;replace H:=Rel.ext H aR.ext;refine wk ?_;refine(iQ H.data (show dx ((e:Nat):Int)by constructor<;>omega)).use ?_;rintro v w⟨r1,rfl,K⟩;(replace H:=Rel.call H K);simp only[aL,aA]at H;refine wk ?_;refine(agD (l:=aZ rs) (enc:=gZ) (g:=198) (cap:=[]) H.data hs (λp hp=>?_) aa aa).use ?_
  ·obtain⟨y,hy,rfl⟩:=cG.1 hp;obtain⟨q1,q2,q3⟩:=ho y hy;exact aga _ (by constructor<;>dsimp only<;>omega) (by constructor<;>dsimp only<;>omega)
  rintro v w⟨r2,rfl,K⟩;(replace H:=Rel.call H K);simp only[aL,aA]at H;refine wk ?_;refine Rel.dD (s:=r1) (x:=r2) (xs:=aM (e:Int)) (ys:=bY gZ (aZ rs)) H (i:=0) rfl aa ?_;clear H;intro rn w H;simp only[bC]at H;refine wk ?_;exact⟨rn,rfl,H.sx⟩
theorem YR(hV:Sub V W){x y:Sl}{a b:ad}(hx:ay V x a)(hy:ay V y b):aC 192 [x.v,y.v] W λv w'=>(∃r:Sl,v=.tuple #[r.v,.bool (decide (a.take b.length=b))]/\ay V r (if a.take b.length=b then a.drop b.length else a))/\Rel W V [] V w':=by
 have H:=Rel.start hV;have h1:=hx.len;have h2:=hy.len;have hc:=hx.cap;refine eV Tryz.func192 15 [0,1,4,5,9] ?_;refine wk ?_;refine(Fc H.data hx hy).use ?_;rintro v w⟨rfl,K⟩;(replace H:=H.az K);by_cases hp:a.take b.length=b
 ·have hl:b.length<=a.length:=by
   have:=congrArg List.length hp;simp at this;omega
  have dy:=hx.sub (n:=1) (λ_=>rfl) (a:=y.len) (b:=x.len) aa aa;rw[h1,fR]at dy;rw[decide_eq_true hp,if_pos hp];refine wk ?_;refine⟨⟨⟨aU x.a y.len x.cap 1,x.len-y.len,x.cap-y.len⟩,rfl,?_⟩,H.sx⟩;rw[h1];rw[h2]at dy |-;exact dy
 ·rw[decide_eq_false hp,if_neg hp];refine wk ?_;exact⟨⟨x,rfl,hx⟩,H.sx⟩
end
structure WH(W V:ae)(x:au×Nat)(v:ao)(w':ae):Prop where
 ex:∃(V':ae) (r:Sl),Sub V V'/\Rel W V [] V' w'/\v=.tuple #[r.v,iv (x.2:Int)]/\aB ew V' r x.1
theorem H9(h:(chars (l.drop p)).isSome=true)(hp:p<l.length):∃c n,o9 (l.drop p)=some (c,n)/\dX c/\1<=n/\p+n<=l.length/\chars (l.drop p)=(chars (l.drop (p+n))).map (c::·):=by
 have hne:l.drop p≠[]:=λe=>by
  have:=congrArg List.length e;rw[bd,aI]at this;omega
 rw[Ey hne]at h |-;cases hc:o9 (l.drop p)with
 | none=>rw[hc]at h;cases h
 | some x =>
  obtain⟨c,n⟩:=x;obtain⟨q1,q2,q3,_⟩:=zD hc;have:=qd c;rw[bd]at q3;refine⟨c,n,rfl,q1,aa,aa,?_⟩;simp only;rw[List.drop_drop]
theorem acP{cs:au}(h:chars b=some cs):(b.take 3=nt↔cs.head?=some 65279)/\(b.take 3=nt->chars (b.drop 3)=some cs.tail):=by
 obtain⟨h1,h2⟩:=Ia.1 h;have hm:bM 65279=nt:=ag;cases cs with
 | nil =>
  simp only[gB]at h2;rw[<-h2];exact⟨⟨λe=>(by cases e),λe=>(by cases e)⟩,λe=>(by cases e)⟩
 | cons c r =>
  rw[bz]at h2;have key:b.take 3=nt->c=65279:=λe=>by
   have e2:b=bM 65279++b.drop 3:=by rw[hm,<-e,eN]
   have g1:=H7 (b.drop 3) (c:=65279) ag;rw[<-e2]at g1;have g2:=H7 (r.flatMap bM) (h1 c ai);rw[h2,g1]at g2;injection g2 with g2
   injection g2 with g2
   exact g2.symm
  have back:c=65279->b.take 3=nt/\b.drop 3=r.flatMap bM:=λe=>by
   rw[e,hm]at h2;rw[<-h2];exact⟨rfl,rfl⟩
  refine⟨⟨λe=>by rw[key e];rfl,λe=>(back (by simpa using e)).1⟩,λe=>?_⟩;rw[(back (key e)).2,List.tail_cons];exact Ex r λx hx=>h1 x (by simp[hx])
section
variable{V W:ae}
theorem aad{w0 V0 w:ae}(H:Rel w0 V0 own V w){b1 b2:Nat}{k:ao->ae->Prop}
  (hk:∀w' b3,Rel w0 V0 (.ax b3 [.slice none 0 0,.slice none 0 0,.slice (some ⟨b1,0,none⟩) 2 2,.slice (some ⟨b2,0,none⟩) 2 2] 22::own) V w'->k (.slice (some ⟨b3,0,none⟩) 4 4) w') :
  bo Tryz.prog (Instr.buildSlice 96 4 [(2,.slice (some ⟨b1,0,none⟩) 2 2),(3,.slice (some ⟨b2,0,none⟩) 2 2)].toArray) w k:=by
 refine .of (v:=.slice (some ⟨w.heap.size,0,none⟩) 4 4) (w':=w.alloc (.cells #[.slice none 0 0,.slice none 0 0,.slice (some ⟨b1,0,none⟩) 2 2,.slice (some ⟨b2,0,none⟩) 2 2] 22)) aj (hk _ _ (H.yr ⟨rfl,rfl⟩))
theorem Y6(hV:Sub V W)(hT:Lib.Utf8Tabs 0 1 V){s:Sl}{b:ad}(hs:ay V s b)(hl:b.length<=1000000):aC 119 [s.v] W (WH W V (jw b)):=by
 have H:=Rel.start hV;have hlen:=hs.len;have mo:=hs.cap;refine qo ah Tryz.func119 rfl aj 86 rfl ai [0,2,3,4,5,6,7,8,9,10,12,14,23,26,27,28,29,39,48,53,62,63,64,70,73,74,75,76] ?_;refine aP.dH ah ?_;refine wk ?_;refine aP.oH ah (λ_:Unit=>[(0,s.v)]) (λ_ w'=>l5 true b=none/\l5 false b=none/\Rel W V [] V w') ?_ ?_
 ·by_cases he:2<=b.length/\b.length%2=0;rotate_left
  ·have e:∀big,l5 big b=none:=λbig=>by unfold l5;rw[if_neg (λh=>he ⟨h.1,h.2.1⟩)]
   by_cases h2:2<=b.length
   ·have h3:¬b.length%2=0:=λh=>he ⟨h2,h⟩;refine wk ?_;exact⟨(),sB,e _,e _,H.sx⟩
   ·refine wk ?_;exact⟨(),sB,e _,e _,H.sx⟩
  obtain⟨h2,hev⟩:=he;have hu:∀big,l5 big b=if b.take 2=(if big=true then[254,255]else[255,254])then fo (iV big (b.drop 2))else none:=λbig=>by
   unfold l5;by_cases h:b.take 2=(if big=true then[254,255]else[255,254])
   ·rw[if_pos ⟨h2,hev,h⟩,if_pos h]
   ·rw[if_neg (λq=>h q.2.2),if_neg h]
  have hr2:ay V ⟨aU s.a 2 s.cap 1,s.len-2,s.cap-2⟩ (b.drop 2):=by
   have:=hs.sub (n:=1) (λ_=>rfl) (a:=2) (b:=b.length) aa aa;rw[fR]at this;rw[hlen];exact this
  have hd2:(b.drop 2).length=b.length-2:=bd;refine wk ?_;refine H.nA ?_;clear H;intro w b1 H;replace H:=H.bA (c':=([254,255]:ad).flatMap aE) rfl;refine wk ?_;refine H.nA ?_;clear H;intro w b2 H;replace H:=H.bA (c':=([255,254]:ad).flatMap aE) rfl;refine wk ?_;refine aad H ?_;clear H;intro w b3 H;obtain⟨V1,hV1,H,hb3⟩:=H.bt;obtain⟨V2,hV2,H,lE⟩:=H.bt;obtain⟨V3,aw,H,fE⟩:=H.bt;have fg:=(hV1.trans hV2).trans aw;have f0:=(hV2.trans aw).cell (hb3.bE (i:=0) rfl);have f1:=(hV2.trans aw).cell (hb3.bE (i:=1) rfl);have f2:=(hV2.trans aw).cell (hb3.bE (i:=2) rfl);have f3:=(hV2.trans aw).cell (hb3.bE (i:=3) rfl);have m1:ay V3 ⟨some ⟨b1,0,none⟩,2,2⟩ [254,255]:=⟨rfl,aK _,fE.cells⟩
  have m2:ay V3 ⟨some ⟨b2,0,none⟩,2,2⟩ [255,254]:=⟨rfl,aK _,lE.cells.fa aw⟩
  refine wk ?_;refine aY (S:=Nat) ah [0,8,9,10,12,14,23,26,27,53,62,63,64,70,73,74,75,76] (λk=>[(28,iv k)]) (λk w'=>k<=4/\(2<k->l5 true b=none)/\(3<k->l5 false b=none)/\Rel W V [] V3 w') (λk _=>4-k) 0 ?_;conv=>whnf
  refine⟨sB,⟨aa,λh=>by omega,λh=>by omega,H⟩,?_⟩;clear H;rintro k w⟨hk,n1,n2,H⟩;have Ju:k=0\/k=1\/k=2\/k=3\/k=4:=aa;rcases Ju with rfl|rfl|rfl|rfl|rfl
  ·refine wk ?_;exact⟨sB,1,sB,⟨aa,λh=>by omega,λh=>by omega,H.sx⟩,aa⟩
  ·refine wk ?_;exact⟨sB,2,sB,⟨aa,λh=>by omega,λh=>by omega,H.sx⟩,aa⟩
  ·refine wk ?_;refine(Fc H.data (hs.up fg) m1).use ?_;rintro v w⟨rfl,K⟩;(replace H:=H.az K);rw[show([254,255]:ad).length=2 from rfl];by_cases hp:b.take 2=[254,255]
   rotate_left
   ·have e:l5 true b=none:=by rw[hu,if_neg (by simpa using hp)]
    rw[decide_eq_false hp];refine wk ?_;exact⟨sB,3,sB,⟨aa,λ_=>e,λh=>by omega,H.sx⟩,aa⟩
   have e:l5 true b=fo (iV true (b.drop 2)):=by rw[hu,if_pos (by simpa using hp)]
   rw[decide_eq_true hp];refine wk ?_;refine(VR H.data (hr2.up fg) aa aa true).use ?_;rintro v w⟨V4,r,aG,K,hres⟩;(replace H:=H.az K);cases hd:fo (iV true (b.drop 2))with
   | none =>
    rw[hd]at hres e;obtain rfl:=hres;refine wk ?_;exact⟨sB,3,sB,⟨aa,λ_=>e,λh=>by omega,H.less fg aG⟩,aa⟩
   | some cs =>
    rw[hd]at hres e;obtain⟨rfl,hr⟩:=hres;have ef:jw b=(cs,2):=by unfold jw;rw[e]
    rw[ef];refine wk ?_;exact⟨V4,r,fg.trans aG,H.sx,rfl,hr⟩
  ·have n1:=n1 aa;refine wk ?_;refine(Fc H.data (hs.up fg) m2).use ?_;rintro v w⟨rfl,K⟩;(replace H:=H.az K);rw[show([255,254]:ad).length=2 from rfl];by_cases hp:b.take 2=[255,254]
   rotate_left
   ·have e:l5 false b=none:=by rw[hu,if_neg (by simpa using hp)]
    rw[decide_eq_false hp];refine wk ?_;exact⟨sB,4,sB,⟨aa,λ_=>n1,λ_=>e,H.sx⟩,aa⟩
   have e:l5 false b=fo (iV false (b.drop 2)):=by rw[hu,if_pos (by simpa using hp)]
   rw[decide_eq_true hp];refine wk ?_;refine(VR H.data (hr2.up fg) aa aa false).use ?_;rintro v w⟨V4,r,aG,K,hres⟩;(replace H:=H.az K);cases hd:fo (iV false (b.drop 2))with
   | none =>
    rw[hd]at hres e;obtain rfl:=hres;refine wk ?_;exact⟨sB,4,sB,⟨aa,λ_=>n1,λ_=>e,H.less fg aG⟩,aa⟩
   | some cs =>
    rw[hd]at hres e;obtain⟨rfl,hr⟩:=hres;have ef:jw b=(cs,3):=by unfold jw;rw[n1,e]
    rw[ef];refine wk ?_;exact⟨V4,r,fg.trans aG,H.sx,rfl,hr⟩
  ·refine wk ?_;exact⟨(),sB,n1 aa,n2 aa,H.less (Sub.refl V) fg⟩
 clear H;rintro _ w⟨u1,u2,H⟩;have ef:jw b=ES b:=by unfold jw;rw[u1,u2]
 rw[ef];unfold ES;refine aP.dH ah ?_;refine wk ?_;replace H:=H.cb 21 1;refine aP.dH ah ?_;refine wk ?_;refine(VY H.data hT hs aa).use ?_;rintro v w⟨rfl,K⟩;(replace H:=Rel.call H K);simp only[aA]at H;cases hch:chars b with
 | none =>
  refine wk ?_;refine aP.go ah ?_;refine wk ?_;refine aY (S:=Nat×Sl) ah [0,2,3,4,5,6,7,9,10,12,23,26,27,28,29,39,48,53,62,63,64,70,73,74] (λk=>[(8,k.2.v),(75,iv k.1)]) (λk w'=>k.1<=b.length/\Rel W V [.row k.2 21 1 (((b.take k.1).map UInt8.toNat).flatMap ew)] V w') (λk _=>b.length-k.1) (0,⟨none,0,0⟩) ?_;conv=>whnf
  refine⟨sB,⟨aa,H⟩,?_⟩;clear H;rintro⟨k,r⟩w⟨hk,H⟩;dsimp only at hk H |-;by_cases hlt:k<b.length
  ·obtain⟨p0,c0⟩:=hs.aX (g:=bv) (λ_=>rfl) hlt;have z0:=b[k].toNat_lt;have nj:((b.take k).map UInt8.toNat).length=k:=by rw[List.length_map,bb];omega
   refine H.wg ?_;clear H;intro _ w H;replace H:=H.bA (c':=ew b[k].toNat) (D9 rfl aa);refine Rel.dC (f:=ew) (l:=(b.take k).map UInt8.toNat) (x:=b[k].toNat) ah rfl rfl rfl rfl rfl ag (λ_=>rfl) (bj.1 rfl) H (by show(((b.take k).map UInt8.toNat).length+1)*4<=_;omega) aa ?_;clear H;intro rn w H;refine wk ?_;refine⟨sB,(k+1,rn),sB,⟨by dsimp only;omega,?_⟩,by dsimp only;omega⟩;dsimp only;rw[bZ hlt,eZ];exact H
  ·rw[bR aa]at H;obtain⟨V2,hV2,H,hr⟩:=Rel.aT H (λ_=>rfl) ag;refine wk ?_;exact⟨V2,r,hV2,H.sx,rfl,hr⟩
 | some cs =>
  obtain⟨FR,mk2⟩:=acP hch;replace H:=H.cb 5 1;refine wk ?_;refine(BI (c:=65279) (xs:=[]) H ag ai).use ?_;clear H;rintro v w⟨rm,rfl,H⟩;rw[aA,show bM 65279=nt by decide]at H;obtain⟨V2,hV2,H,hm⟩:=Rel.aT H (λ_=>rfl) ag;refine wk ?_;refine(YR H.data (hs.up hV2) hm).use ?_;rintro v w⟨⟨r2,rfl,hr2⟩,K⟩;(replace H:=Rel.call H K);simp only[aA]at H;rw[show nt.length=3 from rfl]at hr2 |-;obtain⟨L,hL⟩:∃L,L=if b.take 3=nt then b.drop 3 else b:=⟨_,rfl⟩
  rw[<-hL]at hr2;obtain⟨ds,jT⟩:∃ds,ds=if b.take 3=nt then cs.tail else cs:=⟨_,rfl⟩
  have P8:chars L=some ds:=by
   rw[hL,jT];split
   ·rename_i h;exact mk2 h
   ·exact hch
  have P9:L.length<=b.length:=by rw[hL];split<;>simp
  have abp:=hr2.len;have tH:Cells w r2.a (L.map bv):=fc L▸(hr2.up H.data).cells;have hsz:(ByteArray.mk L.toArray).size=L.length:=rfl;refine wk ?_;refine Rel.range ah rfl rfl H ?_;clear H;intro w bi H;refine wk ?_;refine aY (S:=Nat×Sl×au) ah [0,2,3,4,5,6,7,9,10,14,23,26,27,28,29,39,48,53,62,70,73,74,75,76] (λq=>[(8,q.2.1.v)]) (λq w'=>q.1<=L.length/\(chars (L.drop q.1)).isSome=true/\chars L=(chars (L.drop q.1)).map (q.2.2++·)/\q.2.2.length<=q.1/\Rel W V [.obj bi (.stringIter ⟨L.toArray⟩ q.1),.row q.2.1 21 1 (q.2.2.flatMap ew)] V2 w') (λq _=>L.length-q.1) (0,⟨none,0,0⟩,[]) ?_;conv=>whnf
  refine⟨sB,⟨aa,by rw[List.drop_zero,P8];rfl,ai,aK _,H⟩,?_⟩;clear H;rintro⟨p,r8,out⟩w⟨hp,jW,heq,gV,H⟩;dsimp only at hp jW heq gV H |-;conv=>whnf
  refine Rel.next H (λhlt w H=>?_) (λhlt=>?_)
  ·have qF:p<L.length:=hlt;obtain⟨c,n,hc,QP,vo,hn2,hst⟩:=H9 jW qF;rw[IH hc]at H |-;dsimp only at H |-;refine H.wg ?_;clear H;intro _ w H;refine Rel.dI (f:=ew) (l:=out) (x:=c) ah rfl rfl rfl rfl rfl ag (λ_=>rfl) (bj.1 rfl) H (by show(out.length+1)*4<=_;omega) aa ?_;clear H;intro rn w H;refine wk ?_;refine⟨sB,(p+n,rn,out++[c]),sB,⟨by dsimp only;omega,?_,?_,by dsimp only;rw[aq,cQ];omega,H.sx⟩,by dsimp only;omega⟩
   ·dsimp only;rw[hst]at jW;cases hq:chars (L.drop (p+n))with
    | none=>rw[hq]at jW;cases jW
    | some _=>rfl
   ·dsimp only;rw[heq,hst];exact nq out [c] _
  ·have qF:¬p<L.length:=hlt;rw[pW aa,NU,P8]at heq;have J4:out=ds:=by simpa using heq.symm
   rw[J4]at H;have H0:Rel W V [.row r8 21 1 (ds.flatMap ew)] V2 w:=H.sx;clear H;obtain⟨V3,aw,H,hr⟩:=Rel.aT H0 (λ_=>rfl) ag;clear H0;by_cases hpre:b.take 3=nt
   ·rw[decide_eq_true hpre,if_pos (FR.1 hpre)];rw[if_pos hpre]at jT;rw[jT]at hr;refine wk ?_;exact⟨V3,r8,hV2.trans aw,H.sx,rfl,hr⟩
   ·rw[decide_eq_false hpre,if_neg (λh=>hpre (FR.2 h))];rw[if_neg hpre]at jT;rw[jT]at hr;refine wk ?_;exact⟨V3,r8,hV2.trans aw,H.sx,rfl,hr⟩
end
structure WY(W V:ae)(o:Option (Nat×List dA))(v:ao)(w':ae):Prop where
 ex:∃(V':ae) (e:Int) (r:Sl),Sub V V'/\Rel W V [] V' w'/\(match o with
  | none=>v=.tuple #[.agg (vY e r).toArray,.bool false]
  | some (e',rs)=>e=e'/\v=.tuple #[.agg (vY e r).toArray,.bool true]/\aB eO V' r (aZ rs))
theorem afR:∀q x q',q<=l.length->jo l q=.ok x q'->q'<=l.length:=λq x q' hq h=>(GO hq h).2.1
theorem abZ{xs:List bQ}(hk:k<xs.length):sy 3 (xs.take (k+1))=(xs[k]).1:=by rw[bZ hk,RI]
theorem GS:∀ {rs:List dA} {p:Nat},sQ p rs->∀r∈rs,1<=r.2
 | [],_,_=>by simp
 | x::rs,p,h=>by
  obtain⟨h1,h2,h3,h4⟩:=h;intro r hr;rcases bB.1 hr with rfl|hr
  ·exact h2
  ·exact GS h4 r hr
theorem R9{b:ad}:∀(n p q:Nat) (l:List bQ),p<=b.length->dK (jo b) n p=.ok l q->∀y∈l,dx y.1/\dx y.2
 | 0,p,q,l,hp,h=>by
  simp only[dK]at h;cases h;simp
 | n+1,p,q,l,hp,h=>by
  simp only[dK]at h;split at h
  ·cases h
  ·rename_i x q1 h1;split at h
   ·cases h
   ·rename_i l' r h2;cases h;obtain⟨a1,a2,a3,a4,a5⟩:=GO hp h1;intro y hy;rcases bB.1 hy with rfl|hy
    ·exact⟨a4,a5⟩
    ·exact R9 n q1 _ _ a2 h2 y hy
theorem acd{m:Int}{q:Nat}{l:List bQ}(hp:p<=b.length)(h:bX b (jo b) m p=.ok l q):∀y∈l,dx y.1/\dx y.2:=by
 unfold bX at h;split at h
 ·cases h
 ·rename_i h1;split at h
  ·cases h
  ·exact R9 _ _ _ _ (eX hp h1).2.1 h
section
variable{V W:ae}
theorem afj(hs:ay V s l)(hl:l.length<=1099511627776){p:Nat}(hp:p<=l.length):Reads V 203 [] s (λp=>.agg (eO p).toArray) (λ_ x y=>x=y) p (jo l p):=by
 intro V1 W1 h1 h2;have H:=Rel.start h2;have hs1:=hs.up h1;have hlen:=hs1.len;refine eV Tryz.func203 34 [0,1,4,5,6,7,8,9,19] ?_;refine wk ?_;refine H.nA ?_;clear H;intro w b4 H;refine wk ?_;refine H.nA ?_;clear H;intro w b6 H;refine wk ?_;refine(mN H.data hs1 hl hp).use ?_;rintro v w⟨rfl,K⟩;(replace H:=H.az K);cases hn:cD l p with
 | bad c i =>
  have dR:=mH hn;have hr:jo l p=.bad c i:=by rw[jo,hn]
  rw[hr];refine wk ?_;refine H.nA ?_;clear H;intro w b8 H;refine H.wg ?_;clear H;intro w H;(first|refine lA (id:=3) ah mixed (dB [b4]) (λ_ _ _=>dB.trans) [2] [1] [0,1,2,3,4] aj ?_|refine lA (id:=5) ah mixed (dB [b4]) (λ_ _ _=>dB.trans) [5] [4] [0,1,2,3,4,5,6,7] aj ?_);intro w aR;replace H:=Rel.ext H aR.ext;refine wk ?_;refine And.intro (λw1 kU=>?_) ?_;focus (obtain⟨_,H1⟩:=Rel.ux H (i:=2) rfl rfl kU;clear H;have H:=H1;clear H1;((repeat ((conv=>whnf);first|refine an ?_|((first|refine H.pH ?_|refine H.nw ?_);clear H;intro w _ H)|refine H.ce ?_|refine H.db ?_|refine ea ?_|refine ol ?_|(refine H.st ?_;(conv=>whnf);clear H;intro w H)|refine cT ?_|refine cF ?_|refine cN ?_|refine cM ?_|refine H.lw ?_|refine H.ll ?_));(conv=>whnf));try exact⟨rfl,rfl⟩)
  refine wk ?_;refine Rel.uz H (i:=2) rfl ?_;(conv=>whnf);clear H;intro w H;refine H.wg ?_;clear H;intro w H;exact⟨V1,(0,0),0,c,i,Sub.refl _,H.sx,rfl,rfl,rfl,dR⟩
 | ok n q =>
  obtain⟨g1,g2,g3,g4,g5⟩:=eX hp hn;refine wk ?_;refine H.nA ?_;clear H;intro w b8 H;refine H.wg ?_;clear H;intro w H;refine(mN (p:=q) H.data hs1 hl g2).use ?_;rintro v w⟨rfl,K⟩;(replace H:=H.az K);cases hm:cD l q with
  | bad c i =>
   have dR:=mH hm;have hr:jo l p=.bad c i:=by
    rw[jo,hn];simp only;rw[hm]
   rw[hr];refine H.wg ?_;clear H;intro w H;(first|refine lA (id:=3) ah mixed (dB [b4]) (λ_ _ _=>dB.trans) [2] [1] [0,1,2,3,4] aj ?_|refine lA (id:=5) ah mixed (dB [b4]) (λ_ _ _=>dB.trans) [5] [4] [0,1,2,3,4,5,6,7] aj ?_);intro w aR;replace H:=Rel.ext H aR.ext;refine wk ?_;refine And.intro (λw1 kU=>?_) ?_;focus (obtain⟨_,H1⟩:=Rel.ux H (i:=2) rfl rfl kU;clear H;have H:=H1;clear H1;((repeat ((conv=>whnf);first|refine an ?_|((first|refine H.pH ?_|refine H.nw ?_);clear H;intro w _ H)|refine H.ce ?_|refine H.db ?_|refine ea ?_|refine ol ?_|(refine H.st ?_;(conv=>whnf);clear H;intro w H)|refine cT ?_|refine cF ?_|refine cN ?_|refine cM ?_|refine H.lw ?_|refine H.ll ?_));(conv=>whnf));try exact⟨rfl,rfl⟩)
   refine wk ?_;refine Rel.uz H (i:=2) rfl ?_;(conv=>whnf);clear H;intro w H;refine H.wg ?_;clear H;intro w H;exact⟨V1,(n,0),0,c,i,Sub.refl _,H.sx,rfl,rfl,rfl,dR⟩
  | ok m r =>
   obtain⟨g6,g7,g8,g9,g10⟩:=eX g2 hm;have hr:jo l p=.ok (n,m) r:=by
    rw[jo,hn];simp only;rw[hm]
   rw[hr];refine H.wg ?_;clear H;intro w H;(first|refine lA (id:=3) ah mixed (dB [b4]) (λ_ _ _=>dB.trans) [2] [1] [0,1,2,3,4] aj ?_|refine lA (id:=5) ah mixed (dB [b4]) (λ_ _ _=>dB.trans) [5] [4] [0,1,2,3,4,5,6,7] aj ?_);intro w aR;replace H:=Rel.ext H aR.ext;refine wk ?_;refine And.intro (λw1 kU=>?_) ?_;focus (obtain⟨_,H1⟩:=Rel.ux H (i:=2) rfl rfl kU;clear H;have H:=H1;clear H1;((repeat ((conv=>whnf);first|refine an ?_|((first|refine H.pH ?_|refine H.nw ?_);clear H;intro w _ H)|refine H.ce ?_|refine H.db ?_|refine ea ?_|refine ol ?_|(refine H.st ?_;(conv=>whnf);clear H;intro w H)|refine cT ?_|refine cF ?_|refine cN ?_|refine cM ?_|refine H.lw ?_|refine H.ll ?_));(conv=>whnf));try exact⟨rfl,rfl⟩)
   refine wk ?_;refine Rel.uz H (i:=2) rfl ?_;(conv=>whnf);clear H;intro w H;refine H.wg ?_;clear H;intro w H;exact⟨V1,(n,m),r,0,0,Sub.refl _,H.sx,rfl,rfl,rfl,rfl,rfl⟩
set_option maxRecDepth 100000 in
set_option maxHeartbeats 1000000 in
theorem afm{W:ae}(hV:Sub V W){s:Sl}{l:ad}(hs:ay V s l)(hl:l.length<=1099511627776){p:Nat}(hp:p<=l.length){m:Int}(hm:0<=m/\m<=4294967296){g:FuncId}{cap:aD}{one:Nat->gH bQ}
  (hone:∀q,q<=l.length->Reads V g cap s (λp=>.agg (eO p).toArray) (λ_ x y=>x=y) q (one q)) (hin:∀q x q',q<=l.length->one q=.ok x q'->q'<=l.length) :
  aC 202 [s.v,iv p,iv m,.func (.func g) #[] cap.toArray] W (Bz Sl.v (RL eO (λ_ x y=>x=y)) W V (bX l one m p)):=by
 have H:=Rel.start hV;have hlen:=hs.len;have hR:∀(V V':ae) (x:bQ) (y:bQ),Sub V V'->((λ_ x y=>x=y):ae->bQ->bQ->Prop) V x y->((λ_ x y=>x=y):ae->bQ->bQ->Prop) V' x y:=λ_ _ _ _ _ h=>h;refine eV Tryz.func202 64 [0,1,2,3,8,9,10,11,12,13,14,15,16,17,25,30,40,41,42,53] ?_;refine wk ?_;refine H.nA ?_;clear H;intro w ix H;refine wk ?_;refine(mN H.data hs hl hp).use ?_;rintro v w⟨rfl,K⟩;replace H:=H.call K;simp only[aA]at H;cases hn:cD l p with
 | bad c i =>
  have dR:=mH hn;have hr:bX l one m p=.bad c i:=by rw[bX,hn]
  rw[hr];refine wk ?_;refine H.nA ?_;clear H;intro w iX H;refine H.wg ?_;clear H;intro w H;(first|refine dV 3 [] [0,1,2,3] H ?_|refine dV 11 [] [0,1,2,3] H ?_);clear H;intro w H;refine H.wg ?_;clear H;intro w H;exact⟨V,⟨none,0,0⟩,0,c,i,Sub.refl _,H.sx,rfl,rfl,rfl,dR⟩
 | ok n q0 =>
  obtain⟨h1,h2,h3,h4,h5⟩:=eX hp hn;refine wk ?_;refine H.nA ?_;clear H;intro w iX H;by_cases hb:n<0\/m<n
  ·have hr:bX l one m p=.bad 4 p:=by rw[bX,hn];simp only;rw[if_pos hb]
   rw[hr];by_cases hn0:n<0
   all_goals
    refine H.wg ?_;clear H;intro w H;refine(tt H.data 4 p).use ?_;rintro v w⟨rfl,K⟩;replace H:=H.call K;simp only[aA]at H;refine H.wg ?_;clear H;intro w H;exact⟨V,⟨none,0,0⟩,0,4,p,Sub.refl _,H.sx,rfl,rfl,rfl,ag⟩
  have hr:bX l one m p=dK one n.toNat q0:=by rw[bX,hn];simp only;rw[if_neg hb]
  rw[hr];obtain⟨N,rfl⟩:∃N:Nat,n=N:=⟨n.toNat,aa⟩
  rw[Int.toNat_natCast];refine H.wg ?_;clear H;intro w H;replace H:=H.cb 250 2;refine aY (S:=Nat×Nat×Sl×List bQ×List bQ) ah [0,1,2,3,10,11,13,25,30,40] (λk=>[(12,iv k.2.1),(14,k.2.2.1.v),(41,iv k.1)]) (λk w'=>k.1<=N/\k.2.1<=l.length/\k.2.2.2.1.length=k.1/\dK one k.1 q0=.ok k.2.2.2.2 k.2.1/\∃V1,Sub V V1/\Pw (λ_ x y=>x=y) V1 k.2.2.2.1 k.2.2.2.2/\Rel W V [.row k.2.2.1 250 2 (k.2.2.2.1.flatMap eO),.ax iX [iv 0,iv 0] 31,.ax ix [iv 0,iv 0] 31] V1 w') (λk _=>N-k.1) (0,q0,⟨none,0,0⟩,[],[]) ?_;conv=>whnf
  refine⟨sB,⟨aa,h2,rfl,rfl,V,Sub.refl _,Pw.nil,H.sx⟩,?_⟩;clear H;rintro⟨k,q,r,xs,ys⟩w⟨hk,hq,hxl,j0,V1,hV1,hpw,H⟩;dsimp only at hk hq hxl j0 hpw H;by_cases hlt:k<N;rotate_left
  ·obtain rfl:k=N:=aa;refine H.wg ?_;clear H;intro w H;obtain⟨V2,hV2,H,fw⟩:=Rel.aT H (λ_=>rfl) ag;rw[j0];exact⟨V2,r,q,0,0,hV1.trans hV2,H.sx,rfl,rfl,rfl,rfl,xs,fw,hpw.up hR hV2⟩
  refine wk ?_;refine(hone q hq V1 w hV1 H.data).use ?_;rintro v w⟨V2,x,n2,c,i,hV2,K,rfl,hres⟩;replace H:=H.call K;simp only[aA]at H;cases ho:one q with
  | bad c' i' =>
   rw[ho]at hres;obtain⟨rfl,rfl,dR⟩:=hres;have sf:dK one N q0=.bad c i:=by
    have:=Dg j0 ho (N-(k+1));rwa [show k+1+(N-(k+1))=N by omega]at this
   rw[sf];refine H.wg ?_;clear H;intro _ _ _ _ _ w H;(first|refine dV 3 [] [0,1,2,3] H ?_|refine dV 11 [] [0,1,2,3] H ?_);clear H;intro w H;refine H.wg ?_;clear H;intro w H;exact⟨V2,⟨none,0,0⟩,0,c,i,hV1.trans hV2,H.sx,rfl,rfl,rfl,dR⟩
  | ok y q' =>
   rw[ho]at hres;obtain⟨rfl,rfl,rfl,mG⟩:=hres;have qJ:=hin q y q' hq ho;refine H.wg ?_;clear H;intro _ _ _ _ _ _ _ w H;refine Rel.uN (f:=eO) (l:=xs) (x:=x) ah rfl rfl rfl rfl rfl ag (λ_=>rfl) (bj.1 rfl) H (by simp;omega) aa ?_;clear H;intro rn w H;refine wk ?_;exact⟨sB,(k+1,q',rn,xs++[x],ys++[y]),sB,⟨aa,qJ,by simp[hxl],FQ j0 ho,V2,hV1.trans hV2,(hpw.up hR hV2).snoc mG,H.sx⟩,aa⟩
theorem afr(hV:Sub V W){s:Sl}{b:ad}(hs:ay V s b)(hl:b.length<=1000000000):aC 125 [s.v] W (WY W V (kE b)):=by
 have H:=Rel.start hV;have hlen:=hs.len;refine eV Tryz.func125 100 [0,2,3,4,5,6,7,8,9,10,11,14,29,48,50,51,52,53,86] ?_;refine wk ?_;refine H.nA ?_;clear H;intro w b2 H;by_cases h0:b.length=0
 ·have hb:b=[]:=bL h0;have e:kE b=some (0,[]):=by rw[kE,if_pos hb]
  rw[e];refine H.wg ?_;clear H;intro w H;exact⟨V,0,⟨none,0,0⟩,Sub.refl _,H.sx,rfl,rfl,aB.nil _ _⟩
 have hb:b≠[]:=λh=>h0 (by rw[h];rfl);have hnr:sW b=none->kE b=none:=λh=>by unfold kE;rw[if_neg hb,h]
 refine wk ?_;refine(mN (p:=0) H.data hs aa (cu _)).use ?_;rintro v w⟨rfl,K⟩;(replace H:=H.az K);cases hn:cD b 0 with
 | bad c i =>
  have dR:=mH hn;rw[hnr (by unfold sW;rw[hn])];refine wk ?_;refine H.nA ?_;clear H;intro w b6 H;refine H.wg ?_;clear H;intro _ w H;exact⟨V,_,⟨none,0,0⟩,Sub.refl _,H.sx,rfl⟩
 | ok c q =>
  obtain⟨g1,g2,g3,g4,g5⟩:=eX (cu _) hn;refine wk ?_;refine H.nA ?_;clear H;intro w b6 H;refine H.wg ?_;clear H;intro w H;refine(qk _ _ _ _).use ?_;rintro v w'⟨rfl,rfl⟩;by_cases hc:c<0\/5<=c
  ·rw[hnr (by unfold sW;rw[hn];simp only;rw[if_pos hc]),decide_eq_false aa];refine H.wg ?_;clear H;intro w H;exact⟨V,_,⟨none,0,0⟩,Sub.refl _,H.sx,rfl⟩
  have eK:sW b=(match bX b (jo b) b.length q with
   | .bad _ _=>none
   | .ok rs q=>if q≠b.length then none else if jg 1000 3 rs=true then some (c.toNat,rs.map KK)else none):=by
   rw[sW,hn]
   simp only
   rw[if_neg hc]
   rfl
  rw[decide_eq_true aa];obtain⟨C,rfl⟩:∃C:Nat,c=C:=⟨c.toNat,aa⟩
  refine wk ?_;rw[hlen];refine(afm (m:=b.length) H.data hs aa g2 (by constructor<;>omega) (λq hq=>afj hs aa hq) afR).use ?_;rintro v w⟨V2,x,n,c,i,hV2,K,rfl,hres⟩;(replace H:=H.az K);cases gu:bX b (jo b) b.length q with
  | bad c' i' =>
   rw[gu]at hres eK;obtain⟨rfl,rfl,dR⟩:=hres;rw[hnr eK];refine H.wg ?_;clear H;intro _ w H;exact⟨V2,_,⟨none,0,0⟩,hV2,H.sx,rfl⟩
  | ok xs q' =>
   rw[gu]at hres eK;obtain⟨rfl,rfl,rfl,pC⟩:=hres;obtain⟨ys,pD,hpw⟩:=pC;obtain rfl:=hpw.eq;have hxl:=pD.len;simp only at eK;by_cases hq:q'=b.length;rotate_left
   ·rw[if_pos hq]at eK;rw[hnr eK];refine H.wg ?_;clear H;intro _ w H;exact⟨V2,_,⟨none,0,0⟩,hV2,H.sx,rfl⟩
   rw[if_neg (λh=>h hq)]at eK;have abg:jg 1000 3 ys=false->kE b=none:=λh=>hnr (by rw[eK,if_neg (by rw[h];simp)]);have tV:ys.length<=b.length:=by
    unfold bX at gu;split at gu
    ·cases gu
    ·split at gu
     ·cases gu
     ·rename_i h1 h2;have:=(yl (f:=gZ) (b:=b) (one:=jo b) (λp q x hp h=>by
       obtain⟨a1,a2,a3,_⟩:=GO hp h;exact⟨aa,a2,a3⟩) _ _ _ _ (eX g2 h1).2.1 gu).1
      omega
   have hyI:∀y∈ys,dx y.1/\dx y.2:=acd g2 gu;refine H.wg ?_;clear H;intro w H;refine aY (S:=Nat) ah [0,2,4,5,6,7,11,14,29,48,50,51] (λk=>[(8,iv (ow 1000 (ys.take k))),(52,iv k)]) (λk w'=>k<=ys.length/\jg 1000 3 (ys.take k)=true/\Rel W V [.ax b6 [iv 0,iv 0] 31,.ax b2 (vY 0 ⟨none,0,0⟩) 150] V2 w') (λk _=>ys.length-k) 0 ?_;conv=>whnf
   refine⟨sB,⟨aa,rfl,H.sx⟩,?_⟩;clear H;rintro k w⟨hk,hok,H⟩;dsimp only at hk hok H |-;obtain⟨vk,hl2,qD⟩:=SC hok ag;by_cases hlt:k<ys.length
   ·obtain⟨hp,nk,jy⟩:=pD.fM (g:=λx:bQ=>iv x.1) (g':=λx:bQ=>iv x.2) (λ_=>rfl) hlt;obtain⟨lF,oe⟩:=hyI _ (cj hlt);have hsp:ys=ys.take k++ys[k]::ys.drop (k+1):=by rw[<-j4 hlt,eN]
    obtain⟨x1,cY⟩:∃x,x=(ys[k]).1:=⟨_,rfl⟩
    obtain⟨x2,jB⟩:∃x,x=(ys[k]).2:=⟨_,rfl⟩
    obtain⟨LL,Cl⟩:∃x,x=ow 1000 (ys.take k):=⟨_,rfl⟩
    have hbad:¬(0<=x1/\x1<3/\1<=x2/\x2<=LL/\x1≠sy 3 (ys.take k))->kE b=none:=λh=>abg (by rw[hsp];exact adt (by rw[<-cY,<-jB,<-Cl];exact h));rw[<-Cl]at hl2 qD;rw[<-cY]at nk lF;rw[<-jB]at jy oe;rw[<-Cl];refine H.wg ?_;clear H;intro _ _ w H;by_cases b1:0<=x1/\x1<3;rotate_left
    ·rw[hbad (λh=>b1 ⟨h.1,h.2.1⟩)];(first|refine aS (id:=13) ah mixed [] [0,1,2,3,4,5,6,7,8,9,10,11,12,13,14,15,16,17,18,19,20,21,22,23,24,25,26,27,28,29] aj ?_|refine aS (id:=18) ah mixed [2] [0,1,2,3,4,5] aj ?_);intro w aR;replace H:=Rel.ext H aR.ext;refine wk ?_;refine(qk _ _ _ _).use ?_;rintro v w'⟨rfl,rfl⟩;rw[decide_eq_false aa];refine H.wg ?_;clear H;intro w H;exact⟨V2,_,⟨none,0,0⟩,hV2,H.sx,rfl⟩
    by_cases b2:x2<1
    ·rw[hbad (λh=>by omega)];(first|refine aS (id:=13) ah mixed [] [0,1,2,3,4,5,6,7,8,9,10,11,12,13,14,15,16,17,18,19,20,21,22,23,24,25,26,27,28,29] aj ?_|refine aS (id:=18) ah mixed [2] [0,1,2,3,4,5] aj ?_);intro w aR;replace H:=Rel.ext H aR.ext;refine wk ?_;refine(qk _ _ _ _).use ?_;rintro v w'⟨rfl,rfl⟩;rw[decide_eq_true aa];refine H.wg ?_;clear H;intro w H;exact⟨V2,_,⟨none,0,0⟩,hV2,H.sx,rfl⟩
    by_cases b3:LL<x2
    ·rw[hbad (λh=>by omega)];(first|refine aS (id:=13) ah mixed [] [0,1,2,3,4,5,6,7,8,9,10,11,12,13,14,15,16,17,18,19,20,21,22,23,24,25,26,27,28,29] aj ?_|refine aS (id:=18) ah mixed [2] [0,1,2,3,4,5] aj ?_);intro w aR;replace H:=Rel.ext H aR.ext;refine wk ?_;refine(qk _ _ _ _).use ?_;rintro v w'⟨rfl,rfl⟩;rw[decide_eq_true aa];refine H.wg ?_;clear H;intro w H;exact⟨V2,_,⟨none,0,0⟩,hV2,H.sx,rfl⟩
    have Q7:x1≠sy 3 (ys.take k)->jg 1000 3 (ys.take (k+1))=true:=λh=>by
     rw[bZ hlt,KU,hok];simp only[jg,Bool.and_true,sL];rw[<-cY,<-jB,<-Cl];exact decide_eq_true ⟨b1.1,b1.2,aa,aa,h⟩
    have QU:ow 1000 (ys.take (k+1))=LL-x2:=by rw[bZ hlt,RJ,<-Cl,<-jB]
    by_cases hk0:k=0
    ·have qD:sy 3 (ys.take k)=3:=by rw[hk0];rfl
     (first|refine aS (id:=13) ah mixed [] [0,1,2,3,4,5,6,7,8,9,10,11,12,13,14,15,16,17,18,19,20,21,22,23,24,25,26,27,28,29] aj ?_|refine aS (id:=18) ah mixed [2] [0,1,2,3,4,5] aj ?_);intro w aR;replace H:=Rel.ext H aR.ext;refine wk ?_;refine(qk _ _ _ _).use ?_;rintro v w'⟨rfl,rfl⟩;rw[decide_eq_true aa];refine wk ?_;exact⟨sB,k+1,⟨congrArg (λz=>some (iv z)) QU.symm,rfl,trivial⟩,⟨aa,Q7 (by rw[qD];omega),H.sx⟩,aa⟩
    obtain⟨j,rfl⟩:∃j,k=j+1:=⟨k-1,aa⟩
    have QR:j<ys.length:=aa;obtain⟨_,An,_⟩:=pD.fM (g:=λx:bQ=>iv x.1) (g':=λx:bQ=>iv x.2) (λ_=>rfl) QR;have qD:=abZ QR;obtain⟨x3,Kn⟩:∃x,x=(ys[j]).1:=⟨_,rfl⟩
    rw[<-Kn]at An qD;have ek:(((j+1:Nat):Int)-1)=((j:Nat):Int):=aa;by_cases b4:x1=x3
    ·rw[hbad (λh=>h.2.2.2.2 (by rw[qD];exact b4))];(first|refine aS (id:=13) ah mixed [] [0,1,2,3,4,5,6,7,8,9,10,11,12,13,14,15,16,17,18,19,20,21,22,23,24,25,26,27,28,29] aj ?_|refine aS (id:=18) ah mixed [2] [0,1,2,3,4,5] aj ?_);intro w aR;replace H:=Rel.ext H aR.ext;refine wk ?_;refine(qk _ _ _ _).use ?_;rintro v w'⟨rfl,rfl⟩;rw[decide_eq_true aa];refine wk ?_;rw[ek];refine H.wg ?_;clear H;intro w H;exact⟨V2,_,⟨none,0,0⟩,hV2,H.sx,rfl⟩
    ·(first|refine aS (id:=13) ah mixed [] [0,1,2,3,4,5,6,7,8,9,10,11,12,13,14,15,16,17,18,19,20,21,22,23,24,25,26,27,28,29] aj ?_|refine aS (id:=18) ah mixed [2] [0,1,2,3,4,5] aj ?_);intro w aR;replace H:=Rel.ext H aR.ext;refine wk ?_;refine(qk _ _ _ _).use ?_;rintro v w'⟨rfl,rfl⟩;rw[decide_eq_true aa];refine wk ?_;rw[ek];refine wk ?_;exact⟨sB,j+1+1,⟨congrArg (λz=>some (iv z)) QU.symm,rfl,trivial⟩,⟨aa,Q7 (by rw[qD];exact b4),H.sx⟩,aa⟩
   ·obtain rfl:k=ys.length:=aa;rw[fR]at hok;rw[if_pos hok]at eK;obtain⟨rs,hrs,ho,Aq⟩:=KV (p:=3) hok ag;rw[hrs,KL,Int.toNat_natCast]at eK;rw[hrs]at pD;have hrl:rs.length=ys.length:=by rw[hrs];simp[aZ]
    have hos:=Bb ho;have bF:kE b=if iu C (dN rs)=true then none else some (C,rs):=by unfold kE;rw[if_neg hb,eK]
    rw[bF];refine H.wg ?_;clear H;intro _ _ w H;(first|refine aS (id:=13) ah mixed [] [0,1,2,3,4,5,6,7,8,9,10,11,12,13,14,15,16,17,18,19,20,21,22,23,24,25,26,27,28,29] aj ?_|refine aS (id:=18) ah mixed [2] [0,1,2,3,4,5] aj ?_);intro w aR;replace H:=Rel.ext H aR.ext;refine wk ?_;refine(Hg H.data C pD aa (GS ho)).use ?_;rintro v w⟨rfl,K⟩;(replace H:=H.az K);cases ht:iu C (dN rs)with
    | true =>
     rw[if_pos rfl];refine H.wg ?_;clear H;intro w H;exact⟨V2,_,_,hV2,H.sx,rfl⟩
    | false =>
     rw[if_neg ai];refine H.wg ?_;clear H;intro w H;exact⟨V2,_,_,hV2,H.sx,rfl,rfl,pD⟩
end
end Go.Proofs.YtmoiobegbpkkbaaGreatDoor
