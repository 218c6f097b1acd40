import Derived.Test.YtmoiobegbpkkbaaGreatDoorRAM
import Derived.Deep.AppendSrc
import Derived.Carry
import Derived.MapKept
open Decidable renaming byContradiction->qU
open Int renaming toNat_natCast->e8
open List renaming mem_iff_getElem?->uh,append_nil->cm,length_nil->aI,getElem?_eq_some_iff->cW,length_cons->av,take_of_length_le->bR,cons_append->aL,nil_append->aA,length_append->aq,length_take->bb,length_drop->bd,take_left->pX,size_toArray->vT,eq_nil_of_length_eq_zero->bL,getElem_mem->cj,any_eq_true->AV,take_succ_eq_append_getElem->bZ,take_length->fR,drop_eq_getElem_cons->j4,flatMap_append->bT,map_congr_left->kY,getElem?_eq_getElem->a8,set_cons_zero->bC,flatten_cons->ji,length_map->bu,map_append->eZ,map_map->kz,map_id->pT,getElem_cons_succ->DC,length_pos_iff->jF,count_le_length->Gr,find?_cons->DF
open Nat renaming le_refl->aK,succ_mul->mL,mul_le_mul_right->iD,zero_add->dU,zero_le->cu,mul_one->uj
open UInt8 renaming toNat_ofNat'->jl,toNat_inj->eF
namespace Go.Proofs.YtmoiobegbpkkbaaGreatDoor
open Go Go.RowKit
set_option maxRecDepth 100000
set_option maxHeartbeats 8000000
variable{z:List Int}{v:ar}{α:Type}{n i clock:Nat}{V:ae}{s:Sl}{Z:List fL}{es:Array MapEntry}{hs:List dt}
theorem ad3{f w h:Nat}{aH:List bS}{px o:ad}(hw:w<=64)(hh:h<=64)(hp:kF f aH)(hl:px.length=h*(3*w))(ho:vG f aH w h px=some o):o.length<=100000:=by
 unfold vG at ho;split at ho
 ·cases ho
 ·rename_i B hB;cases ho;unfold yx at hB;split at hB
  ·cases hB
  ·rename_i R hR;cases hB;have jS:=zX (s:=3*w) (R:=turn f (cX (3*w) h px)) λr hr=>yL hl (KH.1 hr);rw[MQ,lV]at jS;rw[<-jS.2,<-bR (l:=cX (3*w) h _) (i:=h) (by rw[lV];omega)]at hR;have:=Nk hw hh jS.1 hR;have:=F8 _ R.flatten (Nat.lt_succ_self _);have:=G8 hp;unfold pK;simp only[aq,av,aI];split<;>omega
section
variable{V W:ae}
theorem Z9(hV:Sub V W){h:VH}{v:ar}(hv:bV V h v)(hB:VB 1048576 v){s:Sl}{b:ad}(hs:ay V s b)(hl:b.length<=100000000):aC 59 [fb h,s.v] W (mT W V (ct v (lP v).isSome (mI v b))):=by
 have H:=Rel.start hV;have hv0:=hv;have hpl:=hv.kt;obtain⟨k,n,bs,ss,pl⟩:=h;dsimp only at hpl;change aC 59 [.agg [iv k,iv n,bs.v,ss.v,pl.v].toArray,s.v] W _;refine eV Tryz.func59 99 [0,1,2,4,5,6,7,8,9,10,11,12,13,14,15,16,21,31,40,51,95] ?_;refine wk ?_;refine H.nA ?_;clear H;intro w b2 H;refine wk ?_;refine H.nA ?_;clear H;intro w b5 H;refine wk ?_;refine(qe H.data hv0 hB).use ?_;rintro q w⟨rfl,K⟩;(replace H:=H.az K);refine wk ?_;refine H.nA ?_;clear H;intro w b6 H;by_cases bP:(bI v).1=0;rotate_left
 ·have e:ct v (lP v).isSome (mI v b)=([],bI v):=by unfold ct;rw[if_pos bP]
  rw[e];refine H.wg ?_;clear H;intro w H;(first|refine dV 3 [] [0,1,2] H ?_|refine dV 10 [] [0,1,2] H ?_|refine dV 13 [] [0,1,2] H ?_|refine dV 16 [] [0,1,2] H ?_);clear H;intro w H;refine H.wg ?_;clear H;intro w H;exact⟨V,⟨none,0,0⟩,Sub.refl _,H.sx,rfl,aB.nil _ _⟩
 have qL:=oQ bP;rw[qL];refine H.wg ?_;clear H;intro w H;refine(agy H.data hv0 hB bP).use ?_;rintro q w⟨V2,rp,hV2,K,hres⟩;(replace H:=H.az K);cases hsh:lP v with
 | none =>
  rw[hsh]at hres;obtain rfl:=hres;have e:ct v (none:Option (Nat×Nat×ad)).isSome (mI v b)=([],13,0):=by unfold ct;rw[if_neg (λh=>h bP)];rfl
  rw[e];refine wk ?_;refine(Cb H.data 13 0).use ?_;rintro q w⟨rfl,K⟩;(replace H:=H.az K);refine H.wg ?_;clear H;intro w H;exact⟨V2,⟨none,0,0⟩,hV2,H.sx,rfl,aB.nil _ _⟩
 | some x =>
  obtain⟨wd,ht,px⟩:=x;rw[hsh]at hres;obtain⟨rfl,hpx⟩:=hres;obtain⟨sr,⟨w1,w2⟩,⟨h1,h2⟩,abn⟩:=ad0 bP hsh;have Q9:px.length=ht*(3*wd):=by rw[abn,Nat.mul_comm]
  have eS:mI v b=none->ct v (some (wd,ht,px)).isSome (mI v b)=([],6, -2):=λh=>by
   rw[h];unfold ct;rw[if_neg (λh=>h bP)];rfl
  refine wk ?_;refine(Cb H.data 6 (-2)).use ?_;rintro q w⟨rfl,K⟩;(replace H:=H.az K);refine wk ?_;refine H.nA ?_;clear H;intro w tg H;refine H.wg ?_;clear H;intro w H;refine(afe H.data (hs.up hV2) aa).use ?_;rintro q w⟨V3,g,rn,aw,K,hres⟩;(replace H:=H.az K);cases hr:nE b with
  | none =>
   rw[hr]at hres;obtain rfl:=hres;have e:=eS (by unfold mI;rw[hsh,hr]);rw[e];refine H.wg ?_;clear H;intro _ _ w H;(first|refine dV 3 [] [0,1,2] H ?_|refine dV 10 [] [0,1,2] H ?_|refine dV 13 [] [0,1,2] H ?_|refine dV 16 [] [0,1,2] H ?_);clear H;intro w H;refine H.wg ?_;clear H;intro w H;exact⟨V3,⟨none,0,0⟩,hV2.trans aw,H.sx,rfl,aB.nil _ _⟩
  | some x =>
   obtain⟨f,aH⟩:=x;rw[hr]at hres;obtain⟨rfl,rfl,hp⟩:=hres;obtain⟨_,hfo,hpo⟩:=adX hr;refine wk ?_;refine H.nA ?_;clear H;intro w uO H;refine H.wg ?_;clear H;intro w H;refine(aiJ H.data hfo.1 hp hpo (hpx.up aw) w1 w2 h2 Q9).use ?_;rintro q w⟨V4,ro,aG,K,hw⟩;(replace H:=H.az K);cases ho:vG g aH wd ht px with
   | none =>
    rw[ho]at hw;obtain rfl:=hw;have e:=eS (by unfold mI;rw[hsh,hr];simp only;rw[ho]);rw[e];refine wk ?_;(first|refine dV 3 [] [0,1,2] H ?_|refine dV 10 [] [0,1,2] H ?_|refine dV 13 [] [0,1,2] H ?_|refine dV 16 [] [0,1,2] H ?_);clear H;intro w H;refine H.wg ?_;clear H;intro w H;exact⟨V4,⟨none,0,0⟩,(hV2.trans aw).trans aG,H.sx,rfl,aB.nil _ _⟩
   | some O =>
    rw[ho]at hw;obtain⟨rfl,hO⟩:=hw;have rY:=ad3 w2 h2 hpo Q9 ho;have bW:mI v b=if O.length<=1000/\gk O=some (v,b)then some O else none:=by
     unfold mI;rw[hsh,hr];simp only;rw[ho]
    refine wk ?_;refine(Ve H.data hO aa).use ?_;rintro q w⟨V5,hh,rr,aQ,K,rfl,fF,fw⟩;(replace H:=H.az K);have cU:=((hV2.trans aw).trans aG).trans aQ;by_cases iz:1000<O.length
    ·have et:br (gk O) O.length=⟨zeroV,[],3, -1⟩:=by unfold br;rw[if_pos iz]
     rw[et];have e:=eS (by rw[bW,if_neg];intro h;omega);refine wk ?_;refine H.nA ?_;clear H;intro w mf H;refine wk ?_;refine H.nA ?_;clear H;intro w BJ H;rw[e];refine H.wg ?_;clear H;intro _ w H;(first|refine dV 3 [] [0,1,2] H ?_|refine dV 10 [] [0,1,2] H ?_|refine dV 13 [] [0,1,2] H ?_|refine dV 16 [] [0,1,2] H ?_);clear H;intro w H;refine H.wg ?_;clear H;intro w H;exact⟨V5,⟨none,0,0⟩,cU,H.sx,rfl,aB.nil _ _⟩
    cases hto:gk O with
    | none =>
     rw[hto]at fF fw;have et:br none O.length=⟨zeroV,[],21, -1⟩:=by unfold br;rw[if_neg iz]
     rw[et];have e:=eS (by rw[bW,if_neg];intro h;rw[hto]at h;cases h.2);refine wk ?_;refine H.nA ?_;clear H;intro w mf H;refine wk ?_;refine H.nA ?_;clear H;intro w BJ H;rw[e];refine H.wg ?_;clear H;intro _ w H;(first|refine dV 3 [] [0,1,2] H ?_|refine dV 10 [] [0,1,2] H ?_|refine dV 13 [] [0,1,2] H ?_|refine dV 16 [] [0,1,2] H ?_);clear H;intro w H;refine H.wg ?_;clear H;intro w H;exact⟨V5,⟨none,0,0⟩,cU,H.sx,rfl,aB.nil _ _⟩
    | some y =>
     obtain⟨wv,wr⟩:=y;have et:br (some (wv,wr)) O.length=⟨wv,wr,0,0⟩:=by unfold br;rw[if_neg iz]
     rw[hto,et]at fF fw;rw[et];dsimp only at fF fw |-;obtain⟨y,hy,_,C4,_⟩:=Lb hto;obtain⟨⟨y1,y2⟩,⟨y3,y4⟩,_,_,y5⟩:=S0 hy;have hcond:(O.length<=1000/\gk O=some (v,b))↔(wr=b/\y.wd=wd/\y.ht=ht/\y.px=px):=by
      rw[hto,C4,sr];constructor
      ·rintro⟨_,h⟩;simp only[Option.some.injEq,Prod.mk.injEq,ar.mk.injEq,List.cons.injEq,and_true,true_and]at h;exact⟨h.2,by have:=h.1.1;omega,by have:=h.1.2.1;omega,h.1.2.2⟩
      ·rintro⟨rfl,e1,e2,e3⟩;rw[e1,e2,e3];exact⟨aa,rfl⟩
     have hwl:wv.parts.length=3:=by rw[C4];rfl
     obtain⟨vq,x0,hx0,a0,a1,a2,a3,a4⟩:=fF.jE (i:=0) aa;obtain⟨_,x1,cY,c0,c1,c2,c3,c4⟩:=fF.jE (i:=1) aa;obtain⟨_,x2,jB,d0,d1,d2,d3,d4⟩:=fF.jE (i:=2) aa;have g0:(wv.parts[0]'aa).num=y.wd:=by simp[C4]
     have g1:(wv.parts[1]'aa).num=y.ht:=by simp[C4]
     have g2:(wv.parts[2]'aa).bytes=y.px:=by simp[C4]
     have n0:=hx0.num;have n1:=cY.num;have lJ:=jB.bytes;rw[g0]at n0;rw[g1]at n1;rw[g2]at lJ;rw[n0]at a1;rw[n1]at c1;have Aj:=fF.kt;obtain⟨hk,hn,fN,om,pB⟩:=hh;dsimp only at vq a0 a1 a2 a3 a4 c0 c1 c2 c3 c4 d0 d1 d2 d3 d4 Aj;refine wk ?_;refine H.nA ?_;clear H;intro w mf H;refine wk ?_;refine H.nA ?_;clear H;intro w BJ H;refine H.wg ?_;clear H;intro _ w H;refine(qv H.data fw (hs.up cU)).use ?_;rintro q w⟨rfl,K⟩;(replace H:=Rel.call H K);simp only[aA]at H;by_cases hc1:wr=b;rotate_left
     ·rw[decide_eq_false hc1];have e:=eS (by rw[bW,if_neg];intro h;exact hc1 (hcond.1 h).1);rw[e];refine wk ?_;(first|refine dV 3 [] [0,1,2] H ?_|refine dV 10 [] [0,1,2] H ?_|refine dV 13 [] [0,1,2] H ?_|refine dV 16 [] [0,1,2] H ?_);clear H;intro w H;refine H.wg ?_;clear H;intro w H;exact⟨V5,⟨none,0,0⟩,cU,H.sx,rfl,aB.nil _ _⟩
     rw[decide_eq_true hc1];by_cases hc2:y.wd=wd;rotate_left
     ·have e:=eS (by rw[bW,if_neg];intro h;exact hc2 (hcond.1 h).2.1);rw[e];refine wk ?_;(first|refine dV 3 [] [0,1,2] H ?_|refine dV 10 [] [0,1,2] H ?_|refine dV 13 [] [0,1,2] H ?_|refine dV 16 [] [0,1,2] H ?_);clear H;intro w H;refine H.wg ?_;clear H;intro w H;exact⟨V5,⟨none,0,0⟩,cU,H.sx,rfl,aB.nil _ _⟩
     by_cases hc3:y.ht=ht;rotate_left
     ·have e:=eS (by rw[bW,if_neg];intro h;exact hc3 (hcond.1 h).2.2.1);rw[e];refine wk ?_;(first|refine dV 3 [] [0,1,2] H ?_|refine dV 10 [] [0,1,2] H ?_|refine dV 13 [] [0,1,2] H ?_|refine dV 16 [] [0,1,2] H ?_);clear H;intro w H;refine H.wg ?_;clear H;intro w H;exact⟨V5,⟨none,0,0⟩,cU,H.sx,rfl,aB.nil _ _⟩
     refine wk ?_;refine(qv H.data lJ (((hpx.up aw).up aG).up aQ)).use ?_;rintro q w⟨rfl,K⟩;(replace H:=Rel.call H K);simp only[aA]at H;by_cases hc4:y.px=px;rotate_left
     ·rw[decide_eq_false hc4];have e:=eS (by rw[bW,if_neg];intro h;exact hc4 (hcond.1 h).2.2.2);rw[e];refine wk ?_;(first|refine dV 3 [] [0,1,2] H ?_|refine dV 10 [] [0,1,2] H ?_|refine dV 13 [] [0,1,2] H ?_|refine dV 16 [] [0,1,2] H ?_);clear H;intro w H;refine H.wg ?_;clear H;intro w H;exact⟨V5,⟨none,0,0⟩,cU,H.sx,rfl,aB.nil _ _⟩
     rw[decide_eq_true hc4];have e:ct v (some (wd,ht,px)).isSome (mI v b)=(O,0,0):=by
      rw[bW,if_pos (hcond.2 ⟨hc1,hc2,hc3,hc4⟩)];unfold ct;rw[if_neg (λh=>h bP)];rfl
     rw[e];refine H.wg ?_;clear H;intro w H;exact⟨V5,ro,cU,H.sx,rfl,hO.up aQ⟩
end
section
variable{V W:ae}
theorem Oa(hV:Sub V W){s:Sl}{l:List Int}(hs:aB cK V s l)(hl:l.length<=1099511627776){g:FuncId}{caps:aD}(p:Int->Bool)
  (hg:∀(x:Int) (w:ae),x∈l->Sub V w->oD g (iv x::caps).toArray w λv w'=>v=.bool (p x)/\Rel w V [] V w') :
  aC 261 [s.v,.func (.func g) #[] caps.toArray] W λv w'=>v=.bool (l.any p)/\Rel W V [] V w':=by
 have key:aC 305 [s.v,.func (.func g) #[] caps.toArray] W λv w'=>(∃i:Int,v=iv i/\(0<=i↔l.any p=true))/\Rel W V [] V w':=by
  have H:=Rel.start hV;have hlen:=hs.len;refine eV Tryz.func305 19 [0,1,4,5,7,8,9,16] ?_;refine wk ?_;refine aY (S:=Nat) ah [0,1,7] (λk=>[(8,iv k)]) (λk w'=>k<=l.length/\(l.take k).any p=false/\Rel W V [] V w') (λk _=>l.length-k) 0 ?_;conv=>whnf
  refine⟨sB,⟨aa,ai,H⟩,?_⟩;clear H;rintro k w⟨hk,hz,H⟩;by_cases hlt:k<l.length
  ·obtain⟨hp,hc⟩:=hs.aX (g:=iv) (λ_=>rfl) hlt;refine wk ?_;refine(hg l[k] _ (cj hlt) H.data).use ?_;rintro v w⟨rfl,K⟩;replace H:=H.call K;conv=>whnf
   refine wY (λh1=>?_) (λh1=>?_)
   ·refine wk ?_;refine⟨⟨k,rfl,λ_=>?_,λ_=>by omega⟩,H⟩;rw[AV];exact⟨l[k],cj hlt,h1⟩
   ·refine wk ?_;exact⟨sB,k+1,sB,⟨aa,by rw[Em hlt,hz,h1];rfl,H⟩,aa⟩
  ·refine wk ?_;refine⟨⟨-1,rfl,λh=>by omega,λh=>?_⟩,H⟩;rw[bR aa]at hz;rw[hz]at h;cases h
 refine eV Tryz.func261 9 [0,1,4] ?_;conv=>whnf
 refine key.use ?_;rintro v w⟨⟨i,rfl,hi⟩,H⟩;conv=>whnf
 refine⟨?_,H⟩;simp only[hi];cases l.any p<;>rfl
def zg(n:Int):Bool:=decide (n<1\/255<n)
theorem Wt(hV:Sub V W)(n:Int):aC 260 [iv n] W λv w'=>v=.bool (zg n)/\Rel W V [] V w':=by
 have H:=Rel.start hV;refine eV Tryz.func260 9 [0,2] ?_;unfold zg;by_cases h1:n<1
 ·rw[decide_eq_true (show n<1\/255<n from .inl h1)];refine wk ?_;exact H.sx
 ·by_cases h2:255<n
  ·rw[decide_eq_true (show n<1\/255<n from .inr h2)];refine wk ?_;rw[decide_eq_true h2];exact⟨rfl,H.sx⟩
  ·rw[decide_eq_false (show ¬(n<1\/255<n)by omega)];refine wk ?_;rw[decide_eq_false h2];exact⟨rfl,H.sx⟩
theorem NG:z.any zg=!decide (oK z):=by
 by_cases h:oK z
 ·rw[decide_eq_true h];rw[Bool.not_true,List.any_eq_false];intro n hn;have:=h n hn;unfold zg;rw[decide_eq_false aa];decide
 ·rw[decide_eq_false h];rw[Bool.not_false,AV];have:∃n,n∈z/\¬(1<=n/\n<=255):=qU λq=>h λn hn=>qU λr=>q ⟨n,hn,r⟩;obtain⟨n,hn,hne⟩:=this;exact⟨n,hn,by unfold zg;rw[decide_eq_true aa]⟩
structure WV(W V:ae)(o:Option (Nat×au))(v:ao)(w':ae):Prop where
 ex:∃(V':ae) (r:Sl) (c:Int) (k:Bool),Sub V V'/\Rel W V [] V' w'/\v=.tuple #[iv c,r.v,.bool k]/\(match o with
  | none=>k=false
  | some (fl,Z)=>k=true/\c=fl/\aB cK V' r (ints Z))
theorem RC(h:oK z):ints (z.map Int.toNat)=z:=by
 unfold ints;rw[kz];conv=>rhs;rw[<-pT z]
 refine kY λx hx=>?_;have:=h x hx;show((x.toNat:Nat):Int)=x;omega
theorem afc(hV:Sub V W){s:Sl}{b:ad}(hs:ay V s b)(hl:b.length<=1099511627776):aC 170 [s.v] W (WV W V (kS b)):=by
 have H:=Rel.start hV;have hlen:=hs.len;refine eV Tryz.func170 59 [0,2,3,4,5,6,7,10,27,52] ?_;by_cases h0:b.length=0
 ·have hb:b=[]:=bL h0;have e:kS b=some (0,[]):=by rw[hb];exact aaY
  rw[e];refine wk ?_;exact⟨V,⟨none,0,0⟩,0,true,Sub.refl _,H.sx,rfl,rfl,rfl,aB.nil _ _⟩
 have hb:b≠[]:=λh=>h0 (by rw[h];rfl);have bF:kS b=match pv b with
  | none=>none
  | some (c,z)=>if(0<=c/\c<4)/\¬(c=0/\z=[])/\oK z then some (c.toNat,z.map Int.toNat)else none:=by
  unfold kS
  rw[if_neg hb]
  cases pv b<;>rfl
 rw[bF];refine wk ?_;refine(mN (p:=0) H.data hs hl (cu _)).use ?_;rintro v w⟨rfl,K⟩;(replace H:=H.az K);cases hn:cD b 0 with
 | bad c i =>
  have dR:=mH hn;have e:pv b=none:=by unfold pv;rw[hn]
  rw[e];refine wk ?_;refine H.nA ?_;clear H;intro w b6 H;refine H.wg ?_;clear H;intro w H;exact⟨V,⟨none,0,0⟩,0,false,Sub.refl _,H.sx,rfl,rfl⟩
 | ok c q =>
  obtain⟨g1,g2,g3,g4,g5⟩:=eX (cu _) hn;have gW:pv b=match bX b (cD b) 1000 q with
   | .bad _ _=>none
   | .ok z q=>if q=b.length then some (c,z)else none:=by
   unfold pv
   rw[hn]
   simp only
   cases bX b (cD b) 1000 q<;>rfl
  refine wk ?_;refine H.nA ?_;clear H;intro w b6 H;by_cases hc:c<0\/4<=c
  ·have e:(match pv b with
    | none=>none
    | some (c,z)=>if(0<=c/\c<4)/\¬(c=0/\z=[])/\oK z then some (c.toNat,z.map Int.toNat)else none)=none:=by
    rw[gW]
    cases bX b (cD b) 1000 q with
    | bad _ _=>rfl
    | ok z q' =>
     simp only
     by_cases hq:q'=b.length
     ·rw[if_pos hq];simp only;rw[if_neg aa]
     ·rw[if_neg hq]
   rw[e];by_cases tG:c<0
   all_goals
    refine H.wg ?_;clear H;intro w H;exact⟨V,⟨none,0,0⟩,0,false,Sub.refl _,H.sx,rfl,rfl⟩
  obtain⟨C,rfl⟩:∃C:Nat,c=C:=⟨c.toNat,aa⟩
  refine H.wg ?_;clear H;intro w H;refine(T6 (m:=1000) H.data hs hl g2 (by constructor<;>omega) (λp hp V1 W1 h1 h2=>eD.mono (mN h2 (hs.up h1) hl hp) λv w' ⟨hv,hR⟩=>?_) (λp x p' hp h=>(eX hp h).2.1)).use ?_
  ·cases xS:cD b p with
   | bad c i =>
    rw[xS]at hv;exact⟨V1,0,0,c,i,Sub.refl _,hR,hv,rfl,rfl,mH xS⟩
   | ok x q =>
    rw[xS]at hv;exact⟨V1,x,q,0,0,Sub.refl _,hR,hv,rfl,rfl,rfl,rfl⟩
  rintro v w⟨V2,x,n,c,i,hV2,K,rfl,hres⟩;(replace H:=H.az K);cases gu:bX b (cD b) 1000 q with
  | bad c' i' =>
   rw[gu]at hres gW;obtain⟨rfl,rfl,dR⟩:=hres;rw[gW];refine H.wg ?_;clear H;intro w H;exact⟨V2,⟨none,0,0⟩,0,false,hV2,H.sx,rfl,rfl⟩
  | ok z q' =>
   rw[gu]at hres gW;obtain⟨rfl,rfl,rfl,hns⟩:=hres;obtain⟨ps,hps,hpw⟩:=hns;obtain rfl:=Tf hpw;have hxl:=hps.len;have Q1:=RT gu;simp only at gW;by_cases hq:q'=b.length;rotate_left
   ·rw[if_neg hq]at gW;rw[gW];refine H.wg ?_;clear H;intro w H;exact⟨V2,⟨none,0,0⟩,0,false,hV2,H.sx,rfl,rfl⟩
   rw[if_pos hq]at gW;rw[gW];simp only;by_cases h2:C=0/\ps=[]
   ·rw[if_neg (λh=>h.2.1 ⟨aa,h2.2⟩)];have h3:ps.length=0:=by rw[h2.2];rfl
    obtain⟨rfl,_⟩:=h2;refine H.wg ?_;clear H;intro w H;exact⟨V2,⟨none,0,0⟩,0,false,hV2,H.sx,rfl,rfl⟩
   have hnn:C=0->ps.length≠0:=λh h3=>h2 ⟨h,bL h3⟩;have CG:(if(0<=(C:Int)/\(C:Int)<4)/\¬((C:Int)=0/\ps=[])/\oK ps then some ((C:Int).toNat,ps.map Int.toNat)else none)=if oK ps then some (C,ps.map Int.toNat)else none:=by
    by_cases hz:oK ps
    ·rw[if_pos hz,if_pos ⟨aa,λh=>h2 ⟨aa,h.2⟩,hz⟩];rfl
    ·rw[if_neg hz,if_neg λh=>hz h.2.2]
   rw[CG];by_cases hC:C=0
   ·have Q4:=hnn hC;subst hC;refine H.wg ?_;clear H;intro w H;refine(Oa H.data hps aa (caps:=[]) zg (λx w _ hw=>Wt hw x)).use ?_;rintro v w⟨rfl,K⟩;(replace H:=H.az K);rw[NG];refine wk ?_;rw[Bool.not_not];by_cases hz:oK ps
    ·rw[if_pos hz,decide_eq_true hz];exact⟨V2,x,_,true,hV2,H.sx,rfl,rfl,rfl,by rw[RC hz];exact hps⟩
    ·rw[if_neg hz,decide_eq_false hz];exact⟨V2,x,_,false,hV2,H.sx,rfl,rfl⟩
   ·refine H.wg ?_;clear H;intro w H;refine(Oa H.data hps aa (caps:=[]) zg (λx w _ hw=>Wt hw x)).use ?_;rintro v w⟨rfl,K⟩;(replace H:=H.az K);rw[NG];refine wk ?_;rw[Bool.not_not];by_cases hz:oK ps
    ·rw[if_pos hz,decide_eq_true hz];exact⟨V2,x,_,true,hV2,H.sx,rfl,rfl,rfl,by rw[RC hz];exact hps⟩
    ·rw[if_neg hz,decide_eq_false hz];exact⟨V2,x,_,false,hV2,H.sx,rfl,rfl⟩
end
structure W9(W V:ae)(o:Option (List bH))(q:ao)(w':ae):Prop where
 ex:∃(V':ae) (r:Sl),Sub V V'/\Rel W V [] V' w'/\(match o with
  | none=>q=.tuple #[(⟨none,0,0⟩:Sl).v,.bool false]
  | some S=>q=.tuple #[r.v,.bool true]/\oW V' r S)
theorem ahL(h:v.parts.length=2):∃a d,v.parts=[a,d]:=by
 match hp:v.parts,h with
 | [a,d],_=>exact⟨a,d,rfl⟩
section
variable{V W:ae}
theorem agk(hV:Sub V W){h:VH}{v:ar}(hv:bV V h v)(hB:VB 1048576 v)(hf:(bI v).1=0):aC 169 [fb h] W (W9 W V (kn v)):=by
 have H:=Rel.start hV;have hv0:=hv;have e1:=hv.kind;have hpl:=hv.kt;have kj:=Nb hf;obtain⟨k,n,bs,ss,pl⟩:=h;dsimp only at e1 hpl;subst e1;change aC 169 [.agg [iv v.kind,iv n,bs.v,ss.v,pl.v].toArray] W _;refine eV Tryz.func169 80 [0,1,2,3,4,6,7,8,11,13,14,15,16,28,69] ?_;refine wk ?_;refine H.nA ?_;clear H;intro w b1 H;by_cases h3:v.kind=3;rotate_left
 ·rw[show kn v=none by unfold kn;rw[if_neg h3]];refine wk ?_;exact⟨V,⟨none,0,0⟩,Sub.refl _,H.sx,rfl⟩
 have hsh:kn v=allM nK v.parts:=by unfold kn;rw[if_pos h3]
 rw[hsh];refine wk ?_;replace H:=H.cb 316 2;refine aY (S:=Nat×Sl×List (Nat×Sl)×List bH) ah [0,1,11,13,14] (λq=>[(4,q.2.1.v),(15,iv q.1)]) (λq w'=>q.1<=v.parts.length/\allM nK (v.parts.take q.1)=some q.2.2.2/\∃V2,Sub V V2/\Pw oV V2 q.2.2.1 q.2.2.2/\Rel W V [.row q.2.1 316 2 (q.2.2.1.flatMap lg),.ax b1 [iv v.kind,iv n,bs.v,ss.v,pl.v] 27] V2 w') (λq _=>v.parts.length-q.1) (0,⟨none,0,0⟩,[],[]) ?_;conv=>whnf
 refine⟨sB,⟨aa,rfl,V,Sub.refl _,Pw.nil,H⟩,?_⟩;clear H;rintro⟨kk,r0,hh,S⟩w⟨pA,hall,V2,hV2,hP,H⟩;dsimp only at pA hall hP H |-;by_cases hlt:kk<v.parts.length;rotate_left
 ·obtain rfl:kk=v.parts.length:=aa;rw[fR]at hall;rw[hall];obtain⟨V3,aw,H,hr⟩:=Rel.aT H (λ_=>rfl) ag;refine wk ?_;exact⟨V3,r0,hV2.trans aw,H.sx,rfl,hh,hr,hP.up oV.up aw⟩
 have Ji:=hP.len;have tB:=(o0 hall).1;rw[bb]at tB;obtain⟨vq,x,hx,a0,a1,a2,a3,a4⟩:=(hv0.up hV2).jE (i:=kk) hlt;obtain⟨r,hr⟩:∃r,r=v.parts[kk]:=⟨_,rfl⟩
 rw[<-hr]at hx;have hmem:r∈v.parts:=by rw[hr];exact cj hlt
 have hno:nK r=none->allM nK v.parts=none:=λh=>zw hmem h;have Ao:=hB.part r hmem;have lH:=Ao.names;have k1:=hx.kind;have hrn:=hx.names;have hrl:=hx.kt;have hx0:=hx;obtain⟨xk,xn,xb,xs,xp⟩:=x;dsimp only at k1 hrn hrl a0 a1 a2 a3 a4;subst k1;refine wk ?_;refine H.nA ?_;clear H;intro w b6 H;refine H.wg ?_;clear H;intro w H;by_cases h4:r.kind=4;rotate_left
 ·rw[hno (Ut λh=>h4 h.1)];refine dV 7 [6] [0,1,2,3,4,5,6,7,8,9] H ?_;clear H;intro w H;refine wk ?_;exact⟨V2,⟨none,0,0⟩,hV2,H.sx,rfl⟩
 refine dV 7 [6] [0,1,2,3,4,5,6,7,8,9] H ?_;clear H;intro w H;refine wk ?_;refine(Sj H.data).use ?_;rintro q w⟨V3,sn,aw,K,rfl,gg⟩;(replace H:=Rel.call H K);simp only[aA]at H;refine wk ?_;have dP:=hV2.trans aw;refine(IM H.data (hrn.up aw) gg aa).use ?_;rintro q w⟨rfl,K⟩;(replace H:=Rel.call H K);simp only[aA]at H;by_cases hnn:r.names=[yN,yO]
 rotate_left
 ·rw[decide_eq_false hnn,hno (Ut λh=>hnn h.2)];refine wk ?_;exact⟨V3,⟨none,0,0⟩,dP,H.sx,rfl⟩
 rw[decide_eq_true hnn];have h2:r.parts.length=2:=by rw[<-aif hf hmem h4,hnn];rfl
 obtain⟨a,d,hps⟩:=ahL h2;have x5:=agi ⟨h4,hnn⟩ hps;have H0:Rel W V [.ax b6 [iv r.kind,iv xn,xb.v,xs.v,xp.v] 27,.row r0 316 2 (hh.flatMap lg),.ax b1 [iv v.kind,iv n,bs.v,ss.v,pl.v] 27] V3 w:=H.sx;clear H;obtain⟨V4,aG,H,Js⟩:=H0.bt;clear H0;have o4:=Js.bE (i:=4) rfl;have kM:=dP.trans aG;obtain⟨_,xa,Fz,c0,c1,c2,c3,c4⟩:=(hx0.up (aw.trans aG)).jE (i:=0) aa;obtain⟨_,xd,Ar,d0,d1,d2,d3,d4⟩:=(hx0.up (aw.trans aG)).jE (i:=1) aa;have g0:r.parts[0]=a:=by simp[hps]
 have g1:r.parts[1]=d:=by simp[hps]
 rw[g0]at Fz;rw[g1]at Ar;refine wk ?_
 refine aP.uX (λq:Nat×Nat=>[(0,.agg [iv v.kind,iv n,bs.v,ss.v,pl.v].toArray),(1,.pointer (some ⟨b1,0,none⟩)),(4,r0.v),(7,.pointer (some ⟨q.1,0,none⟩)),(8,.pointer (some ⟨q.2,0,none⟩)),(11,.bool (decide (v.kind≠3))),(13,pl.v),(14,iv (pl.len:Int)),(15,iv (kk:Int))])
  (λq w'=>Rel W V [.ax q.1 (cr xa) 27,.ax q.2 (cr xd) 27,.row r0 316 2 (hh.flatMap lg),.ax b1 [iv v.kind,iv n,bs.v,ss.v,pl.v] 27] V4 w') ?_ ?_
 ·(first|refine cz (id:=7) ah mixed (Kv V4) Kv.trans [6] [5] [0,1,2,3,4,5,6,7,8,9] [(6,[]),(7,[6])] aj ?_|refine cz (id:=9) ah mixed (Kv V4) Kv.trans [8,9,10] [1,3,5,7] [0,1,2,3,4,5,6,7,8,9,10,11] [(8,[]),(9,[]),(10,[8,9]),(11,[8,9,10])] aj ?_);intro w aR;replace H:=Rel.ext H aR.ext;repeat' ((first|(refine H.uI ?_;clear H;intros;rename_i w H;constructor)|refine wk ?_);(first|refine Kv.go H ?_|refine Kv.go2 H (by assumption) ?_|(refine And.intro (λw1 hkp=>?_) ?_;focus ((first|have H:=Kv.in H hkp|have H:=Kv.gi H (by assumption) hkp);((repeat ((conv=>whnf);first|refine an ?_|refine H.ce ?_|refine H.db ?_|refine ea ?_|refine ol ?_|fail|refine cT ?_|refine cF ?_|refine cN ?_|refine cM ?_|refine H.da (hc1 _ _ aW) ?_|refine H.eU hc1 aW ?_|refine H.eT hc1 aW ?_|refine H.da (hc2 _ _ aW) ?_|refine H.eU hc2 aW ?_|refine H.eT hc2 aW ?_|refine H.lw ?_|refine H.ll ?_));(conv=>whnf));all_goals (first|exact⟨rfl,rfl⟩|exact rfl)))|refine And.intro ?_ ?_|(refine H.nA ?_;clear H;intro w _ H)))
  all_goals
   refine H.wg ?_;clear H;intro w H;exact⟨(_,_),sB,H.pick⟩
 clear H;rintro⟨b7,b8⟩w H;dsimp only at H;have ka:=Fz.kind;have na:=Fz.num;have kd:=Ar.kind;have JA:=Ar.bytes;have hdl:=JA.len;have hdB:=(Ao.part d (by rw[hps];simp)).bytes;obtain⟨ak,an,ab,al,ap⟩:=xa;obtain⟨dk,dn,db,ds,dp⟩:=xd;dsimp only at ka na kd JA hdl;dsimp only[cr]at H;subst ka na kd;refine wk ?_;have bad:¬(a.kind=1/\d.kind=2/\0<=a.num/\a.num<65536/\d.bytes≠[]/\(d.bytes.length:Int)<=65536-a.num)->allM nK v.parts=none:=λh=>hno (by rw[x5,if_neg h]);by_cases q1:a.kind=1;rotate_left
 ·rw[bad λh=>q1 h.1];refine wk ?_;exact⟨V4,⟨none,0,0⟩,kM,H.sx,rfl⟩
 by_cases q2:d.kind=2;rotate_left
 ·rw[bad λh=>q2 h.2.1];refine wk ?_;exact⟨V4,⟨none,0,0⟩,kM,H.sx,rfl⟩
 by_cases q3:0<=a.num;rotate_left
 ·rw[bad λh=>q3 h.2.2.1];refine wk ?_;exact⟨V4,⟨none,0,0⟩,kM,H.sx,rfl⟩
 by_cases q4:a.num<65536;rotate_left
 ·rw[bad λh=>q4 h.2.2.2.1];refine wk ?_;exact⟨V4,⟨none,0,0⟩,kM,H.sx,rfl⟩
 by_cases q5:d.bytes.length=0
 ·rw[bad λh=>h.2.2.2.2.1 (bL q5)];refine wk ?_;exact⟨V4,⟨none,0,0⟩,kM,H.sx,rfl⟩
 by_cases q6:(d.bytes.length:Int)<=65536-a.num;rotate_left
 ·rw[bad λh=>q6 h.2.2.2.2.2];refine wk ?_;exact⟨V4,⟨none,0,0⟩,kM,H.sx,rfl⟩
 rw[if_pos ⟨q1,q2,q3,q4,λe=>q5 (by rw[e];rfl),q6⟩]at x5;obtain⟨m,hm⟩:∃m:Nat,a.num=m:=⟨a.num.toNat,aa⟩
 rw[hm]at H x5 q4 q6;rw[e8]at x5;have Jq:=HP hlt hall (by rw[<-hr];exact x5);refine H.wg ?_;clear H;intro _ w H;refine Rel.uN (f:=lg) (s:=r0) (l:=hh) (x:=(m,db)) ah rfl rfl rfl rfl rfl ag (λ_=>rfl) (by simp[Value.oneCell']) H (by show(hh.length+1)*32<=_;omega) aa ?_;clear H;intro r1 w H;refine wk ?_;exact⟨sB,(kk+1,r1,hh++[(m,db)],S++[(m,d.bytes)]),sB,⟨by dsimp only;omega,Jq,V4,kM,(hP.up oV.up (aw.trans aG)).snoc ⟨rfl,JA⟩,H.sx⟩,by dsimp only;omega⟩
end
theorem UH{f:α->aD}{l:List α}(h:aB f V s l)(hf:∀x,(f x).length=n){k:Nat}(hk:k<=l.length):aB f V ⟨aU s.a k s.cap n,s.len-k,s.cap-k⟩ (l.drop k):=by
 have:=h.sub hf (a:=k) (b:=l.length) hk (aK _);rw[fR]at this;rw[h.len];exact this
theorem agz{f:α->aD}{l:List α}(h:aB f V s l)(hf:∀x,(f x).length=n){k:Nat}(hk:k<=l.length):aB f V ⟨aU s.a 0 s.cap n,k-0,s.cap-0⟩ (l.take k):=by
 have:=h.sub hf (a:=0) (b:=k) (cu _) hk;rwa [List.drop_zero]at this
theorem aaL{a:Nat}(k:UInt8)(hn:n<=255)(ha:a<65536):[Value.int .u8 (wr .u8 (n:Int)),Value.int .u8 (wr .u8 ((a:Int)/2^min (Int.toNat 8) IntKind.i64.bits)),Value.int .u8 (wr .u8 (a:Int)),bv k]=[UInt8.ofNat n,UInt8.ofNat (a/256),UInt8.ofNat a,k].flatMap aE:=by
 have e0:(2:Int)^min (Int.toNat 8) IntKind.i64.bits=256:=ag;have e1:wr .u8 ((a:Int)/256)=((a/256:Nat):Int):=by show((a:Int)/256)%256=_;omega
 have e2:wr .u8 (a:Int)=((a%256:Nat):Int):=by show(a:Int)%256=_;omega
 have e3:wr .u8 (n:Int)=(n:Int):=by show(n:Int)%256=_;omega
 simp only[e0,e1,e2,e3,List.flatMap_cons,List.flatMap_nil,aE,bv,aL,aA];rw[cH aa,cH aa,jl]
theorem ac9:[Value.int .u8 (wr .u8 (0-((n%256:Nat):Int)))]=aE (UInt8.ofNat (256-n%256)):=by
 simp only[aE,bv];rw[jl];congr 2;show(0-((n%256:Nat):Int))%256=_;omega
theorem Xn:∀c:Nat,c<256->bN .and .u8 (c:Int) 15=((c%16:Nat):Int):=by decide +kernel
section
variable{V W:ae}
theorem Ua(hV:Sub V W){fl:Nat}(hf:fl<4){a:Nat}(ha:a<65536)(k:UInt8){s:Sl}{c:ad}(hs:ay V s c)(hc:c.length<=255):aC 262 [iv (fl:Int),iv (a:Int),bv k,s.v] W λv w'=>v=str (gX fl (gw a k.toNat c))/\Rel W V [] V w':=by
 have H:=Rel.start hV;have hlen:=hs.len;refine eV Tryz.func262 58 [0,1,2,3,8,9,10,12,33,34,35,36] ?_;refine wk ?_;refine H.nA ?_;clear H;intro w bh H;refine wk ?_;refine H.nA ?_;clear H;intro w bl H;obtain⟨V2,hV2,H,hbl⟩:=H.bt;replace H:=H.bA (c':=[UInt8.ofNat c.length,UInt8.ofNat (a/256),UInt8.ofNat a,k].flatMap aE) (by rw[hlen];exact aaL k hc ha);obtain⟨V3,aw,H,mn⟩:=H.bt;have hll:aB cZ V3 ⟨some ⟨bl,0,none⟩,2,2⟩ [⟨some ⟨bh,0,none⟩,4,4⟩,s]:=⟨rfl,aK _,hbl.cells.fa aw⟩
 have hpw:Pw ju V3 [⟨some ⟨bh,0,none⟩,4,4⟩,s] [[UInt8.ofNat c.length,UInt8.ofNat (a/256),UInt8.ofNat a,k],c]:=⟨rfl,λi x y hx hy=>by
  match i,hx,hy with
  | 0,hx,hy=>cases hx;cases hy;exact⟨rfl,aK _,mn.cells⟩
  | 1,hx,hy=>cases hx;cases hy;exact(hs.up hV2).up aw
  | i+2,hx,hy=>simp at hx⟩
 refine wk ?_;refine(nf H.data hll hpw (by show 2<=_;decide) (by simp only[ji,List.flatten_nil,aq,av,aI];omega)).use ?_;rintro v w⟨r,rfl,K⟩;(replace H:=Rel.call H K);simp only[cm]at H;obtain⟨X,hX⟩:∃X,X=vW a k.toNat c:=⟨_,rfl⟩
 have eh:[[UInt8.ofNat c.length,UInt8.ofNat (a/256),UInt8.ofNat a,k],c].flatten=X:=by
  rw[hX];simp[vW]
 have Qj:X.length=c.length+4:=by rw[<-eh];simp
 have hM:gw a k.toNat c=X++[yW X]:=by rw[hX];rfl
 rw[hM];rw[eh]at H;refine wk ?_;refine(UQ (Sub.refl w) (H.eG (i:=0) rfl (λ_=>rfl) ag) aa).use ?_;rintro v w2⟨rfl,K⟩;replace H:=H.ext K.base;clear K;generalize w2=w at H |-;refine H.wg ?_;clear H;intro _ w H;replace H:=H.bA (c':=aE (yW X)) ac9;refine Rel.dC (f:=aE) (s:=r) (l:=X) (x:=yW X) ah rfl rfl rfl rfl rfl ag (λ_=>rfl) (by simp[Value.oneCell']) H (by show(X.length+1)*1<=_;omega) aa ?_;clear H;intro r2 w H;obtain⟨M,hM⟩:∃M,M=X++[yW X]:=⟨_,rfl⟩
 have hMl:M.length=c.length+5:=by rw[hM];simp;omega
 rw[<-hM]at H |-;obtain⟨V4,aG,H,hr2⟩:=Rel.aT H (λ_=>rfl) ag;have abp:=hr2.len;refine wk ?_;refine H.nA ?_;clear H;intro w ix H;replace H:=H.bA (c':=([58]:ad).flatMap aE) rfl;replace H:=H.fA (n:=1) (e:=5) (sz:=1) rfl (by simp[maxLen]);refine wk ?_;refine aY (S:=Nat×Sl) ah [0,1,2,3,8,9,33,34] (λq=>[(10,q.2.v),(35,iv q.1)]) (λq w'=>q.1<=M.length/\Rel W V [.row q.2 5 1 ((58::dF (cC fl) (M.take q.1)).flatMap aE)] V4 w') (λq _=>M.length-q.1) (0,⟨some ⟨ix,0,none⟩,1,1⟩) ?_;conv=>whnf
 refine⟨sB,⟨aa,H⟩,?_⟩;clear H;rintro⟨i,ro⟩w⟨hi,H⟩;dsimp only at hi H |-;have Af:=CE (cC fl) (M.take i);rw[bb]at Af;by_cases hlt:i<M.length
 ·obtain⟨p0,c0⟩:=hr2.aX (g:=bv) (λ_=>rfl) hlt;have ht:=bZ hlt;obtain⟨y,hy⟩:∃y,y=M[i]:=⟨_,rfl⟩
  rw[<-hy]at c0 ht;have sw:=y.toNat_lt;have qt:(2:Int)^min (Int.toNat 4) IntKind.u8.bits=16:=ag;have g0:(uZ (cC fl))[((y.toNat:Int)/2^min (Int.toNat 4) IntKind.u8.bits).toNat]?=some (ft (cC fl) (y.toNat/16)):=by
   rw[show((y.toNat:Int)/2^min (Int.toNat 4) IntKind.u8.bits).toNat=y.toNat/16 from rfl];exact O3 aa
  have g1:(uZ (cC fl))[(((y.toNat%16:Nat):Int)).toNat]?=some (ft (cC fl) (y.toNat%16)):=by
   rw[e8];exact O3 aa
  have ga:=Xn y.toNat sw;refine wk ?_;(first|refine dV 7 [] [0,1,3,4,6,8,9,2,5,7,10,11,12,13] H ?_|refine dV 9 [3] [0,1,2,3,4,5] H ?_);clear H;intro w H;refine wk ?_;refine(EJ H.data hf).use ?_;rintro v w⟨rfl,K⟩;(replace H:=H.az K);refine wk ?_;refine⟨by rw[qt];omega,_,g0,?_⟩;refine wk ?_;refine(EJ H.data hf).use ?_;rintro v w⟨rfl,K⟩;(replace H:=H.az K);refine wk ?_;rw[ga];refine H.wg ?_;clear H;intro _ w H;replace H:=H.bA (c':=[ft (cC fl) (y.toNat/16),ft (cC fl) (y.toNat%16)].flatMap aE) rfl;replace H:=H.fA (n:=2) (e:=5) (sz:=1) rfl (by simp[maxLen]);refine Rel.dD H (i:=0) rfl (by simp only[av,aI];omega) ?_;clear H;intro r1 w H;simp only[bC]at H;refine wk ?_;refine⟨sB,(i+1,r1),sB,⟨by dsimp only;omega,?_⟩,by dsimp only;omega⟩;dsimp only;rw[ht,aaO];exact H
 ·rw[bR aa]at H Af;obtain⟨V5,aQ,H,hro⟩:=Rel.aT H (λ_=>rfl) ag;refine wk ?_;(first|refine dV 7 [] [0,1,3,4,6,8,9,2,5,7,10,11,12,13] H ?_|refine dV 9 [3] [0,1,2,3,4,5] H ?_);clear H;intro w H;refine wk ?_;refine⟨58::dF (cC fl) M,hro.len,fc _▸(hro.up H.data).cells,?_⟩;refine wk ?_;refine(Pg H.data hf).use ?_;rintro v w⟨rfl,K⟩;(replace H:=H.az K);refine wk ?_;refine⟨by have:=(Pf fl);unfold cI;split<;>simp only[av,aI]<;>omega,?_⟩;refine wk ?_;exact Rel.back H.sx
structure Xf(W V:ae)(o:fx)(q:ao)(w':ae):Prop where
 ex:∃(V':ae) (r:Sl),Sub V V'/\Rel W V [] V' w'/\q=.tuple #[r.v,.bool o.isSome]/\∀l,o=some l->ay V' r l/\l.length<=1099511627776
theorem aiI(hV:Sub V W){fl:Nat}(hf:fl<4){sg sz:Sl}{S:List bH}{Z:au}(hs:oW V sg S)(hok:mP S)(tB:S.length<=600)(hz:aB cK V sz (ints Z))(ni:Z.length<=1000)(hZ:∀n∈Z,1<=n/\n<=255) :
  aC 171 [sg.v,iv (fl:Int),sz.v] W (Xf W V (pq fl S Z)):=by
 have H:=Rel.start hV;have hsl:=hs.len;have ov:=hz.len;rw[bu]at ov;have hd:∀x∈S,x.2.length<=65536:=λx hx=>by have:=hok x hx;omega
 obtain⟨Z2,tC⟩:∃Z2,Z2=if Z=[]then iG S else Z:=⟨_,rfl⟩
 have hb:Z2.length<=40000000/\∀n∈Z2,1<=n/\n<=255:=by
  rw[tC];split
  ·have:=M9 hd;refine⟨aa,λn hn=>?_⟩;obtain⟨x,_,hx⟩:=List.mem_flatMap.1 hn;have:=(VQ _ x.2.length (aK _)).2 n hx;omega
  ·exact⟨aa,hZ⟩
 obtain⟨ai5,aat⟩:=hb;refine qo ah Tryz.func171 rfl aj 71 rfl ai [0,1,2,6,7,8,10,11,12,13,16,19,20,21,22,31,42] ?_;refine aP.dH ah ?_;refine wk ?_;refine aP.oH ah (λq:Sl=>[(0,sg.v),(1,iv (fl:Int)),(2,q.v)]) (λq w'=>∃V2,Sub V V2/\Rel W V [] V2 w'/\aB cK V2 q (ints Z2)) ?_ ?_
 ·by_cases hz0:Z.length=0
  ·rw[if_pos (bL hz0)]at tC;refine wk ?_;refine(S6 H.data hs aa hd).use ?_;rintro q w⟨V2,r,hV2,K,rfl,hr⟩;(replace H:=H.az K);rw[<-tC]at hr;refine wk ?_;exact⟨r,sB,V2,hV2,H.sx,hr⟩
  ·rw[if_neg (λh=>hz0 (by rw[h];rfl))]at tC;refine wk ?_;exact⟨sz,sB,V,Sub.refl _,H.sx,by rw[tC];exact hz⟩
 clear H;rintro q0 w⟨V2,hV2,H,hq0⟩;refine aP.go ah ?_;obtain⟨gs,hgs,hpw⟩:=hs;have Fq:=hpw.len;refine wk ?_;refine aY (S:=Nat×Sl×bg×au) ah [0,1,16,19,20] (λq=>[(2,q.2.1.v),(8,str (q.2.2.1.flatMap (gX fl))),(21,iv q.1)]) (λq w'=>q.1<=S.length/\dq S Z2=yy q.2.2.1 (dq (S.drop q.1) q.2.2.2)/\aB cK V2 q.2.1 (ints q.2.2.2)/\q.2.2.1.length+q.2.2.2.length=Z2.length/\(∀r∈q.2.2.1,r.length<=260)/\(∀n∈q.2.2.2,1<=n/\n<=255)/\Rel W V [] V2 w') (λq _=>S.length-q.1) (0,q0,[],Z2) ?_;conv=>whnf
 refine⟨sB,⟨aa,by rw[aee];rfl,hq0,ai,ai,aat,H⟩,?_⟩;clear H;rintro⟨kk,q,rs,Zr⟩w⟨pA,jA,hq,fu,hr2,hzb,H⟩;dsimp only at pA jA hq fu hr2 hzb H |-;have eW:=hq.len;rw[bu]at eW;have hll:=KA fl hr2;by_cases hlt:kk<S.length;rotate_left
 ·obtain rfl:kk=S.length:=aa;rw[List.drop_length,aiB]at jA;refine wk ?_;refine(Ua H.data hf (a:=0) ag 1 (s:=⟨none,0,0⟩) (c:=[]) (aB.nil _ _) ag).use ?_;rintro v w⟨rfl,K⟩;(replace H:=H.az K);have hle:=(yh fl (gw 0 1 [])).2;rw[KI,aI]at hle;refine wk ?_;refine⟨by rw[show(1:UInt8).toNat=1 from rfl];omega,?_⟩;rw[show(1:UInt8).toNat=1 from rfl];refine wk ?_;refine Rel.Od Tryz.underlying9 Tryz.underlying22 Tryz.underlying5 H _ ?_;clear H;intro V3 so w _ aw x7 H;refine wk ?_;refine⟨V3,so,hV2.trans aw,H.sx,?_,λl hl=>?_⟩
  ·rw[Fo,<-tC,jA];by_cases he:Zr=[]
   ·rw[if_pos he];have h0:Zr.length=0:=by rw[he];rfl
    exact congrArg (λz=>Value.tuple #[so.v,.bool z]) (decide_eq_true aa:_=true)
   ·rw[if_neg he];have h0:Zr.length≠0:=λh=>he (bL h);exact congrArg (λz=>Value.tuple #[so.v,.bool z]) (decide_eq_false aa:_=false)
  ·rw[Fo,<-tC,jA]at hl;by_cases he:Zr=[]
   ·rw[if_pos he]at hl;cases hl;rw[cm];exact⟨x7,by rw[aq];omega⟩
   ·rw[if_neg he]at hl;cases hl
 obtain⟨p0,c0,c1⟩:=(hgs.up hV2).fM (g:=λh:Nat×Sl=>iv (h.1:Int)) (g':=λh:Nat×Sl=>h.2.v) (λ_=>rfl) (i:=kk) aa;have hR:=hpw.all kk _ _ (a8 aa) (a8 hlt);obtain⟨x,hx⟩:∃x,x=gs[kk]'aa:=⟨_,rfl⟩
 obtain⟨y,hy⟩:∃y,y=S[kk]:=⟨_,rfl⟩
 rw[<-hx,<-hy]at hR;rw[<-hx]at c0 c1;have hyk:=hok y (by rw[hy];exact cj hlt);rw[j4 hlt,<-hy]at jA;obtain⟨T,hT⟩:∃T,T=S.drop (kk+1):=⟨_,rfl⟩
 rw[<-hT]at jA;obtain⟨xa,xs⟩:=x;obtain⟨ya,yd⟩:=y;obtain⟨mG,hby⟩:=hR;dsimp only at hby mG c0 c1 hyk;subst mG;replace hby:=hby.up hV2;refine wk ?_;refine H.nA ?_;clear H;intro w ix H;refine H.wg ?_;clear H;intro w H;(first|refine dV 7 [] [0,1,2,3,4,5] H ?_|refine dV 13 [] [0,1,2,3,4,5,6,7,8,9,10] H ?_);clear H;intro w H;refine wk ?_;refine aY (S:=Nat×Sl×ad×Sl×bg×au) ah [0,1,10,16,19,20,21,22] (λq=>[(2,q.2.2.2.1.v),(8,str (q.2.2.2.2.1.flatMap (gX fl))),(11,iv (q.1:Int)),(12,q.2.1.v)]) (λq w'=>dq S Z2=yy q.2.2.2.2.1 (dq ((q.1,q.2.2.1)::T) q.2.2.2.2.2)/\ay V2 q.2.1 q.2.2.1/\q.1+q.2.2.1.length<=65536/\aB cK V2 q.2.2.2.1 (ints q.2.2.2.2.2)/\q.2.2.2.2.1.length+q.2.2.2.2.2.length=Z2.length/\(∀r∈q.2.2.2.2.1,r.length<=260)/\(∀n∈q.2.2.2.2.2,1<=n/\n<=255)/\Rel W V [.ax ix [iv (xa:Int),xs.v] 316] V2 w') (λq _=>q.2.2.1.length) (xa,xs,yd,q,rs,Zr) ?_;conv=>whnf
 refine⟨sB,⟨jA,hby,by dsimp only;omega,hq,fu,hr2,hzb,H⟩,?_⟩;clear H jA hby hq fu hr2 hzb eW hll hx hy;clear q rs Zr;rintro⟨a,dh,D,q,rs,Zr⟩w⟨jA,hby,qA,hq,fu,hr2,hzb,H⟩;dsimp only at jA hby qA hq fu hr2 hzb H |-;have eW:=hq.len;rw[bu]at eW;have hll:=KA fl hr2;have hbl:=hby.len;by_cases hD0:D.length=0
 ·obtain rfl:=bL hD0;rw[aiA]at jA;refine wk ?_;exact⟨sB,(kk+1,q,rs,Zr),sB,⟨by dsimp only;omega,by dsimp only;rw[<-hT];exact jA,hq,fu,hr2,hzb,H.sx⟩,by dsimp only;omega⟩
 have hD:D≠[]:=λh=>hD0 (by rw[h];rfl);cases Zr with
 | nil =>
  rw[aI]at eW;rw[aiE T hD]at jA;have e0:pq fl S Z=none:=by rw[Fo,<-tC,jA];rfl
  rw[e0];refine wk ?_;exact⟨V2,⟨none,0,0⟩,hV2,H.sx,rfl,ai⟩
 | cons n Zt =>
  obtain⟨p1,d0⟩:=hq.aX (g:=iv) (λ_=>rfl) (i:=0) ai;rw[show(ints (n::Zt))[0]'(by simp)=(n:Int)from rfl]at d0;have hzn:=hzb n ai;rw[av]at eW fu;by_cases JY:n<=D.length;rotate_left
  ·rw[aiz T Zt hD aa]at jA;have e0:pq fl S Z=none:=by rw[Fo,<-tC,jA];rfl
   rw[e0];refine wk ?_;exact⟨V2,⟨none,0,0⟩,hV2,H.sx,rfl,ai⟩
  rw[aiD T Zt hD JY,aed]at jA;have hbc:=hby.cap;have CQ:=hq.cap;refine wk ?_;refine(Ua H.data hf (a:=a) aa 0 (agz hby (n:=1) (λ_=>rfl) JY) (by rw[bb];omega)).use ?_;rintro v w⟨rfl,K⟩;(replace H:=Rel.call H K);simp only[aA]at H;rw[show(0:UInt8).toNat=0 from rfl];have hle:=(yh fl (gw a 0 (D.take n))).2;rw[KI,bb]at hle;refine wk ?_;(first|refine dV 7 [] [0,1,2,3,4,5] H ?_|refine dV 13 [] [0,1,2,3,4,5,6,7,8,9,10] H ?_);clear H;intro w H;refine wk ?_;rw[show rs.flatMap (gX fl)++gX fl (gw a 0 (D.take n))=(rs++[gw a 0 (D.take n)]).flatMap (gX fl)by simp];exact⟨sB,(a+n,_,D.drop n,_,rs++[gw a 0 (D.take n)],Zt),sB,⟨jA,UH hby (n:=1) (λ_=>rfl) JY,by dsimp only;rw[bd];omega,UH hq (n:=1) (λ_=>rfl) (k:=1) ai,by simp;omega,λr hr=>by
   rcases List.mem_append.1 hr with hr|hr
   ·exact hr2 r hr
   ·rw[List.mem_singleton.1 hr,KI,bb];omega,λm hm=>hzb m (by simp[hm]),H.sx⟩,by dsimp only;rw[bd];omega⟩
end
section
variable{V W:ae}
theorem Z8(hV:Sub V W)(hM:s6 V){h:VH}{v:ar}(hv:bV V h v)(hB:VB 1048576 v){s:Sl}{b:ad}(hs:ay V s b)(hl:b.length<=1099511627776):aC 71 [fb h,s.v] W (mT W V (ct v (kn v).isSome (jU v b))):=by
 have H:=Rel.start hV;have hv0:=hv;have hpl:=hv.kt;obtain⟨k,n,bs,ss,pl⟩:=h;dsimp only at hpl;change aC 71 [.agg [iv k,iv n,bs.v,ss.v,pl.v].toArray,s.v] W _;refine eV Tryz.func71 82 [0,1,2,4,5,6,7,8,9,10,11,12,13,14,15,16,17,22,30,40,50,65,78] ?_;refine wk ?_;refine H.nA ?_;clear H;intro w b2 H;refine wk ?_;refine H.nA ?_;clear H;intro w b5 H;refine wk ?_;refine(qe H.data hv0 hB).use ?_;rintro q w⟨rfl,K⟩;(replace H:=H.az K);refine wk ?_;refine H.nA ?_;clear H;intro w b6 H;by_cases bP:(bI v).1=0;rotate_left
 ·have e:ct v (kn v).isSome (jU v b)=([],bI v):=by unfold ct;rw[if_pos bP]
  rw[e];refine H.wg ?_;clear H;intro w H;(first|refine dV 3 [] [0,1,2] H ?_|refine dV 10 [] [0,1,2] H ?_|refine dV 13 [] [0,1,2] H ?_|refine dV 19 [] [0,1,2] H ?_);clear H;intro w H;refine H.wg ?_;clear H;intro w H;exact⟨V,⟨none,0,0⟩,Sub.refl _,H.sx,rfl,aB.nil _ _⟩
 have qL:=oQ bP;rw[qL];refine H.wg ?_;clear H;intro w H;refine(agk H.data hv0 hB bP).use ?_;rintro q w⟨V2,sg,hV2,K,hres⟩;(replace H:=H.az K);cases hsh:kn v with
 | none =>
  rw[hsh]at hres;dsimp only at hres;subst hres;have e:ct v (none:Option (List bH)).isSome (jU v b)=([],13,0):=by unfold ct;rw[if_neg (λh=>h bP)];rfl
  rw[e];refine wk ?_;refine(EP H.data 13 0).use ?_;rintro q w⟨rfl,K⟩;(replace H:=H.az K);refine H.wg ?_;clear H;intro w H;exact⟨V2,⟨none,0,0⟩,hV2,H.sx,rfl,aB.nil _ _⟩
 | some S =>
  rw[hsh]at hres;obtain⟨rfl,hsg⟩:=hres;obtain⟨hok,tB⟩:=aa0 hsh;have kj:=Nb bP;have eS:jU v b=none->ct v (some S).isSome (jU v b)=([],6, -2):=λh=>by
   rw[h];unfold ct;rw[if_neg (λh=>h bP)];rfl
  refine wk ?_;refine(EP H.data 6 (-2)).use ?_;rintro q w⟨rfl,K⟩;(replace H:=H.az K);refine wk ?_;refine H.nA ?_;clear H;intro w b9 H;refine H.wg ?_;clear H;intro w H;refine(afc H.data (hs.up hV2) hl).use ?_;rintro q w⟨V3,rz,c,k3,aw,K,rfl,hres⟩;(replace H:=H.az K);have dP:=hV2.trans aw;cases hr:kS b with
  | none =>
   rw[hr]at hres;obtain rfl:=hres;have e:=eS (aaQ hsh hr);rw[e];refine wk ?_;(first|refine dV 3 [] [0,1,2] H ?_|refine dV 10 [] [0,1,2] H ?_|refine dV 13 [] [0,1,2] H ?_|refine dV 19 [] [0,1,2] H ?_);clear H;intro w H;refine H.wg ?_;clear H;intro w H;exact⟨V3,⟨none,0,0⟩,dP,H.sx,rfl,aB.nil _ _⟩
  | some x =>
   obtain⟨fl,Z⟩:=x;rw[hr]at hres;obtain⟨rfl,rfl,hz⟩:=hres;obtain⟨hf,ni,hZ,_⟩:=aaZ hr;refine wk ?_;refine(aiI H.data hf (hsg.up aw) hok aa hz ni hZ).use ?_;rintro q w⟨V4,ro,aG,K,rfl,hw⟩;(replace H:=H.az K);have kM:=dP.trans aG;cases ho:pq fl S Z with
   | none =>
    have e:=eS (aaS hsh hr ho);rw[e];refine wk ?_;(first|refine dV 3 [] [0,1,2] H ?_|refine dV 10 [] [0,1,2] H ?_|refine dV 13 [] [0,1,2] H ?_|refine dV 19 [] [0,1,2] H ?_);clear H;intro w H;refine H.wg ?_;clear H;intro w H;exact⟨V4,⟨none,0,0⟩,kM,H.sx,rfl,aB.nil _ _⟩
   | some O =>
    obtain⟨tA,rY⟩:=hw O ho;have bW:∀q:O.length<=1000->gL O≠some (v,b),ct v (some S).isSome (jU v b)=([],6, -2):=λq=>eS (aaR hsh hr ho q);refine wk ?_;refine(Vd H.data (((hM.up hV2).up aw).up aG) tA rY).use ?_;rintro q w⟨V5,hh,rr,aQ,K,rfl,fF,fw⟩;(replace H:=H.az K);have cU:=kM.trans aQ;by_cases iz:1000<O.length
    ·have et:br (gL O) O.length=⟨zeroV,[],3, -1⟩:=by unfold br;rw[if_pos iz]
     rw[et];have e:=bW λh=>by omega
     obtain⟨hk,hn,fN,om,pB⟩:=hh;refine wk ?_;refine H.nA ?_;clear H;intro w iX H;refine wk ?_;refine H.nA ?_;clear H;intro w th H;refine H.wg ?_;clear H;intro _ w H;rw[e];refine wk ?_;(first|refine dV 3 [] [0,1,2] H ?_|refine dV 10 [] [0,1,2] H ?_|refine dV 13 [] [0,1,2] H ?_|refine dV 19 [] [0,1,2] H ?_);clear H;intro w H;refine H.wg ?_;clear H;intro w H;exact⟨V5,⟨none,0,0⟩,cU,H.sx,rfl,aB.nil _ _⟩
    cases hto:gL O with
    | none =>
     have et:br none O.length=⟨zeroV,[],21, -1⟩:=by unfold br;rw[if_neg iz]
     rw[et];have e:=bW λ_ h=>by rw[hto]at h;cases h
     obtain⟨hk,hn,fN,om,pB⟩:=hh;refine wk ?_;refine H.nA ?_;clear H;intro w iX H;refine wk ?_;refine H.nA ?_;clear H;intro w th H;refine H.wg ?_;clear H;intro _ w H;rw[e];refine wk ?_;(first|refine dV 3 [] [0,1,2] H ?_|refine dV 10 [] [0,1,2] H ?_|refine dV 13 [] [0,1,2] H ?_|refine dV 19 [] [0,1,2] H ?_);clear H;intro w H;refine H.wg ?_;clear H;intro w H;exact⟨V5,⟨none,0,0⟩,cU,H.sx,rfl,aB.nil _ _⟩
    | some y =>
     obtain⟨u,ur⟩:=y;have et:br (some (u,ur)) O.length=⟨u,ur,0,0⟩:=by unfold br;rw[if_neg iz]
     rw[hto,et]at fF fw;rw[et];dsimp only at fF fw |-;obtain⟨uB,uF,_⟩:=JG (show O.length<=1000 by omega) hto;have CZ:=fF;obtain⟨hk,hn,fN,om,pB⟩:=hh;refine wk ?_;refine H.nA ?_;clear H;intro w iX H;refine wk ?_;refine H.nA ?_;clear H;intro w th H;refine H.wg ?_;clear H;intro _ w H;refine(qv H.data fw (hs.up cU)).use ?_;rintro q w⟨rfl,K⟩;(replace H:=Rel.call H K);simp only[aA]at H;by_cases hc1:ur=b;rotate_left
     ·rw[decide_eq_false hc1];have e:=bW λ_ h=>hc1 (by rw[hto]at h;cases h;rfl);rw[e];refine wk ?_;(first|refine dV 3 [] [0,1,2] H ?_|refine dV 10 [] [0,1,2] H ?_|refine dV 13 [] [0,1,2] H ?_|refine dV 19 [] [0,1,2] H ?_);clear H;intro w H;refine H.wg ?_;clear H;intro w H;exact⟨V5,⟨none,0,0⟩,cU,H.sx,rfl,aB.nil _ _⟩
     rw[decide_eq_true hc1];refine wk ?_;refine(Ii H.data (hv0.up cU) CZ hB uB bP uF).use ?_;rintro q w⟨V6,cc,cg,K,rfl,hcc⟩;(replace H:=Rel.call H K);simp only[aA]at H;have gJ:=cU.trans cg;refine wk ?_;refine H.nA ?_;clear H;intro w wM H;by_cases hc2:cc=0;rotate_left
     ·have e:=bW λ_ h=>hc2 (hcc.2 (by rw[hto]at h;cases h;rfl));rw[e];refine H.wg ?_;clear H;intro w H;(first|refine dV 3 [] [0,1,2] H ?_|refine dV 10 [] [0,1,2] H ?_|refine dV 13 [] [0,1,2] H ?_|refine dV 19 [] [0,1,2] H ?_);clear H;intro w H;refine H.wg ?_;clear H;intro w H;exact⟨V6,⟨none,0,0⟩,gJ,H.sx,rfl,aB.nil _ _⟩
     have e:ct v (some S).isSome (jU v b)=(O,0,0):=by
      rw[aaT hsh hr ho aa (by rw[hto,hc1,hcc.1 hc2])];unfold ct;rw[if_neg (λh=>h bP)];rfl
     rw[e];refine H.wg ?_;clear H;intro _ w H;exact⟨V6,ro,gJ,H.sx,rfl,tA.up (aQ.trans cg)⟩
end
theorem Se(s:UInt8)(Z:au):∀ {r:bg} {k j:Nat} (hj:j<r.length),(qO s Z k r)[j]?=some (kf s Z (k+j) r[j])
 | x::r,k,0,_=>rfl
 | x::r,k,j+1,hj=>by
  show(qO s Z (k+1) r)[j]?=_;rw[Se s Z (r:=r) (by simpa using hj)];simp only[DC];rw[show k+1+j=k+(j+1)by omega]
theorem Sb(s:UInt8)(Z:au):∀ {R:List bg} {k i:Nat} (hi:i<R.length),(nu s Z k R)[i]?=some (qO s Z (k+(R.take i).flatten.length) R[i])
 | r::R,k,0,_=>by simp[nu]
 | r::R,k,i+1,hi=>by
  show(nu s Z (k+r.length) R)[i]?=_;rw[Sb s Z (R:=R) (by simpa using hi)];simp only[DC,List.take_succ_cons,ji,aq];rw[show k+r.length+(R.take i).flatten.length=k+(r.length+(R.take i).flatten.length)by omega]
theorem SK(s:UInt8)(c:bG):∀ {r:List bG},r≠[]->eY s (r++[c])=eY s r++s::gz c
 | [d],_=>rfl
 | d::e::r,_=>by
  have:=SK s c (r:=e::r) ai;show gz d++s::eY s ((e::r)++[c])=(gz d++s::eY s (e::r))++_;rw[this];simp
theorem Px(s:UInt8)(e:ad)(o:Bool):∀ {R:List (List bG)} {i:Nat},i<R.length->fD s e o R=(R.take i).flatMap (λr=>eY s r++e)++fD s e o (R.drop i)
 | r::R,0,_=>by simp
 | [r],i+1,h=>by simp at h
 | r::q::R,i+1,h=>by
  have ih:=Px s e o (R:=q::R) (i:=i) (by simpa using h);show eY s r++(e++fD s e o (q::R))=_;rw[ih];simp
theorem ZN(s:UInt8)(e:ad)(o:Bool){R:List (List bG)}{i:Nat}{r:List bG}(h:i+1=R.length)(hr:R[i]?=some r):fD s e o R=(R.take i).flatMap (λr=>eY s r++e)++eY s r++(if o=true then[]else e):=by
 rw[Px s e o (i:=i) aa];obtain⟨h1,h2⟩:=cW.1 hr;rw[j4 h1,h2,List.drop_of_length_le aa,fD,List.append_assoc]
structure W8(W V:ae)(o:Option jN)(q:ao)(w':ae):Prop where
 ex:∃(V':ae) (r:Sl) (g:Bool),Sub V V'/\Rel W V [] V' w'/\q=.tuple #[r.v,.bool g]/\(match o with
  | none=>g=false
  | some T=>g=true/\mX V' r T)
section
variable{V W:ae}
theorem RE(hV:Sub V W){h:VH}{v:ar}(hv:bV V h v):aC 236 [fb h] W λq w'=>q=.bool (decide (v.kind=3/\v.parts≠[]))/\Rel W V [] V w':=by
 have H:=Rel.start hV;have e1:=hv.kind;have hpl:=hv.kt;obtain⟨k,n,bs,ss,pl⟩:=h;dsimp only at e1 hpl;subst e1;change aC 236 [.agg [iv v.kind,iv n,bs.v,ss.v,pl.v].toArray] W _;refine eV Tryz.func236 12 [0,1,2] ?_;refine wk ?_;refine H.nA ?_;clear H;intro w b1 H;by_cases h3:v.kind=3
 ·by_cases h0:v.parts.length=0
  ·rw[decide_eq_false (λh=>h.2 (bL h0))];refine wk ?_;rw[decide_eq_false aa];first|exact H.sx|exact⟨rfl,H.sx⟩
  ·rw[decide_eq_true ⟨h3,λh=>h0 (by rw[h];rfl)⟩];refine wk ?_;rw[decide_eq_true aa];first|exact H.sx|exact⟨rfl,H.sx⟩
 ·rw[decide_eq_false (λh=>h3 h.1)];refine wk ?_;first|exact H.sx|exact⟨rfl,H.sx⟩
theorem afQ(hV:Sub V W){h:VH}{v:ar}(hv:bV V h v)(hB:VB 1048576 v):aC 154 [fb h] W (W8 W V (jJ v)):=by
 have H:=Rel.start hV;have hv0:=hv;have e1:=hv.kind;have hpl:=hv.kt;have kj:=hB.parts;obtain⟨k,n,bs,ss,pl⟩:=h;dsimp only at e1 hpl;subst e1;change aC 154 [.agg [iv v.kind,iv n,bs.v,ss.v,pl.v].toArray] W _;refine eV Tryz.func154 48 [0,1,2,3,4,5,7,8,10,14,16,17,18,19,25,27,28,29,30,35] ?_;refine wk ?_;refine H.nA ?_;clear H;intro w b1 H;refine wk ?_;refine(RE H.data hv0).use ?_;rintro q w⟨rfl,K⟩;(replace H:=Rel.call H K);simp only[aA]at H;by_cases h3:v.kind=3/\v.parts≠[];rotate_left
 ·rw[decide_eq_false h3,show jJ v=none by unfold jJ;rw[if_neg h3]];refine wk ?_;exact⟨V,⟨none,0,0⟩,false,Sub.refl _,H.sx,rfl,rfl⟩
 rw[decide_eq_true h3,show jJ v=allM rh v.parts by unfold jJ;rw[if_pos h3]];refine wk ?_;replace H:=H.cb 96 1;refine aY (S:=Nat×Sl×List Sl×jN) ah [0,1,4,14,16,17] (λz=>[(5,z.2.1.v),(18,iv z.1)]) (λz w'=>z.1<=v.parts.length/\allM rh (v.parts.take z.1)=some z.2.2.2/\∃V2,Sub V V2/\Pw zj V2 z.2.2.1 z.2.2.2/\Rel W V [.row z.2.1 96 1 (z.2.2.1.flatMap cZ),.ax b1 [iv v.kind,iv n,bs.v,ss.v,pl.v] 27] V2 w') (λz _=>v.parts.length-z.1) (0,⟨none,0,0⟩,[],[]) ?_;conv=>whnf
 refine⟨sB,⟨aa,rfl,V,Sub.refl _,Pw.nil,H⟩,?_⟩;clear H;rintro⟨i,rs,hh,T⟩w⟨hi,hall,V2,hV2,hP,H⟩;dsimp only at hi hall hP H |-;have Cs:=(o0 hall).1;rw[bb]at Cs;have Ji:=hP.len;by_cases hlt:i<v.parts.length;rotate_left
 ·obtain rfl:i=v.parts.length:=aa;rw[fR]at hall;rw[hall];obtain⟨V3,aw,H,hr⟩:=Rel.aT H (λ_=>rfl) ag;refine wk ?_;exact⟨V3,rs,true,hV2.trans aw,H.sx,rfl,rfl,hh,hr,hP.up nb aw⟩
 obtain⟨vq,x,hx,a0,a1,a2,a3,a4⟩:=(hv0.up hV2).jE (i:=i) hlt;obtain⟨r,hr⟩:∃r,r=v.parts[i]:=⟨_,rfl⟩
 rw[<-hr]at hx;have hmem:r∈v.parts:=by rw[hr];exact cj hlt
 have hno:rh r=none->allM rh v.parts=none:=λh=>zw hmem h;have Ao:=hB.part r hmem;have je:=Ao.parts;have k1:=hx.kind;have hrl:=hx.kt;have hx0:=hx;obtain⟨xk,xn,xb,xs,xp⟩:=x;dsimp only at k1 hrl a0 a1 a2 a3 a4;subst k1;refine wk ?_;refine H.nA ?_;clear H;intro w b7 H;refine H.wg ?_;clear H;intro w H;refine(RE H.data hx0).use ?_;rintro q w⟨rfl,K⟩;(replace H:=Rel.call H K);simp only[aA]at H;by_cases h4:r.kind=3/\r.parts≠[];rotate_left
 ·rw[decide_eq_false h4,hno (by unfold rh;rw[if_neg h4])];refine wk ?_;exact⟨V2,⟨none,0,0⟩,false,hV2,H.sx,rfl,rfl⟩
 have xZ:rh r=allM cellOf r.parts:=by unfold rh;rw[if_pos h4]
 rw[decide_eq_true h4];refine wk ?_;replace H:=H.cb 22 1;refine aY (S:=Nat×Sl×List Sl×bg) ah [0,1,4,5,7,14,16,17,18,19,25,27,28] (λz=>[(8,z.2.1.v),(29,iv z.1)]) (λz w'=>z.1<=r.parts.length/\allM cellOf (r.parts.take z.1)=some z.2.2.2/\Pw ju V2 z.2.2.1 z.2.2.2/\Rel W V [.row z.2.1 22 1 (z.2.2.1.flatMap cZ),.ax b7 [iv r.kind,iv xn,xb.v,xs.v,xp.v] 27,.row rs 96 1 (hh.flatMap cZ),.ax b1 [iv v.kind,iv n,bs.v,ss.v,pl.v] 27] V2 w') (λz _=>r.parts.length-z.1) (0,⟨none,0,0⟩,[],[]) ?_;conv=>whnf
 refine⟨sB,⟨aa,rfl,Pw.nil,H⟩,?_⟩;clear H;rintro⟨j,cs,gs,cc⟩w⟨hj,xA,hG,H⟩;dsimp only at hj xA hG H |-;have hcl:=(o0 xA).1;rw[bb]at hcl;have hGl:=hG.len;by_cases gT:j<r.parts.length
 ·obtain⟨_,y,hy,b0,XG,b2,b3,b4⟩:=hx0.jE (i:=j) gT;obtain⟨c,hc⟩:∃c,c=r.parts[j]:=⟨_,rfl⟩
  rw[<-hc]at hy;have hcm:c∈r.parts:=by rw[hc];exact cj gT
  have ky:=hy.kind;have As:=hy.bytes;obtain⟨yk,yn,yb,ys,yp⟩:=y;dsimp only at ky As b0 XG b2 b3 b4;subst ky;refine wk ?_;refine H.nA ?_;clear H;intro w ix H;by_cases h2:c.kind=2;rotate_left
  ·rw[hno (by rw[xZ];exact zw hcm (by unfold cellOf;rw[if_neg h2]))];refine H.wg ?_;clear H;intro w H;exact⟨V2,⟨none,0,0⟩,false,hV2,H.sx,rfl,rfl⟩
  have mq:cellOf c=some c.bytes:=by unfold cellOf;rw[if_pos h2]
  have aav:=HP gT xA (by rw[<-hc];exact mq);refine H.wh ?_;clear H;intro w H;refine H.nA ?_;clear H;intro w b39 H;refine wk ?_;refine Rel.dI (f:=cZ) (s:=cs) (l:=gs) (x:=yb) ah rfl rfl rfl rfl rfl ag (λ_=>rfl) (by simp[Value.oneCell']) H (by show(gs.length+1)*24<=_;omega) aa ?_;clear H;intro ie w H;refine wk ?_;exact⟨sB,(j+1,ie,gs++[yb],cc++[c.bytes]),sB,⟨by dsimp only;omega,aav,hG.snoc As,H.sx⟩,by dsimp only;omega⟩
 ·obtain rfl:j=r.parts.length:=aa;rw[fR]at xA;have Jq:=HP hlt hall (by rw[<-hr,xZ];exact xA);obtain⟨V3,aw,H,hcs⟩:=Rel.aT H (λ_=>rfl) ag;refine wk ?_;refine H.nA ?_;clear H;intro w b44 H;refine wk ?_;refine Rel.dI (f:=cZ) (s:=rs) (l:=hh) (x:=cs) ah rfl rfl rfl rfl rfl ag (λ_=>rfl) (by simp[Value.oneCell']) H (by show(hh.length+1)*24<=_;omega) aa ?_;clear H;intro fT w H;refine wk ?_;exact⟨sB,(i+1,fT,hh++[cs],T++[cc]),sB,⟨by dsimp only;omega,Jq,V3,hV2.trans aw,(hP.up nb aw).snoc ⟨gs,hcs,hG.up (λ_ _ _ _ k h=>h.up k) aw⟩,H.sx⟩,by dsimp only;omega⟩
theorem Sy{Z:au}{m:Nat}:decide (((m:Nat):Int)∈nz Z)=Z.contains m:=by
 rw[Bool.eq_iff_iff,decide_eq_true_eq,List.contains_iff_mem];simp only[nz,List.mem_map];constructor
 ·rintro⟨a,ha,e⟩;rwa [<-Int.ofNat_inj.1 e]
 ·exact λh=>⟨m,h,rfl⟩
theorem PQ{α:Type}{m:Nat}:∀ {L:List (List α)},(∀r∈L,r.length<=m)->L.flatten.length<=L.length*m
 | [],_=>by simp
 | r::L,h=>by
  have h1:=h r ai;have h2:=PQ (L:=L) λx hx=>h x (by simp[hx]);rw[ji,aq,av,mL];omega
theorem aiL(hV:Sub V W)(hT:nW V)(hM:mV V){n:Nat}(hn:n<3)(k o:Bool){rs qs:Sl}{T:jN}{Z:au}(hs:mX V rs T)(jd:aB cK V qs (nz Z))(ni:Z.length<=1000)(Cs:T.length<=600)(hrl:∀r∈T,r.length<=600/\∀x∈r,x.length<=1048576) :
  aC 156 [.agg (iy n k rs qs o).toArray] W λv w'=>∃(V':ae) (r:Sl),Sub V V'/\Rel W V [] V' w'/\v=r.v/\ay V' r (fD (aO n) (cd k) o (nu (aO n) Z 0 T))/\(fD (aO n) (cd k) o (nu (aO n) Z 0 T)).length<=1099511627776:=by
 have H:=Rel.start hV;have hlen:=hs.len;obtain⟨xs,h1,h2⟩:=hs;have xo:=h2.len;obtain⟨R,hR⟩:∃R,R=nu (aO n) Z 0 T:=⟨_,rfl⟩
 have rZ:R.length=T.length:=by rw[hR,Sc]
 rw[<-hR];have hel:=Ha k;refine eV Tryz.func156 75 [0,1,2,3,4,5,6,7,8,10,11,12,13,17,18,19,20,25,42,67] ?_;refine wk ?_;refine H.nA ?_;clear H;intro w b1 H;refine wk ?_;replace H:=H.cb 5 1;refine aY (S:=Nat×Sl×ad) ah [0,1,2,10,11] (λz=>[(3,z.2.1.v),(4,iv ((T.take z.1).flatten.length:Nat)),(12,iv z.1)]) (λz w'=>z.1<=T.length/\z.2.2=(if z.1<T.length then(R.take z.1).flatMap (λr=>eY (aO n) r++cd k)else fD (aO n) (cd k) o R)/\z.2.2.length<=z.1*1300000000/\∃V2,Sub V V2/\Rel W V [.row z.2.1 5 1 (z.2.2.flatMap aE),.ax b1 (iy n k rs qs o) 187] V2 w') (λz _=>T.length-z.1) (0,⟨none,0,0⟩,[]) ?_;conv=>whnf
 refine⟨sB,⟨aa,?_,ai,V,Sub.refl _,H⟩,?_⟩
 ·dsimp only;split
  ·rfl
  ·have:R=[]:=bL aa;rw[this];rfl
 clear H;rintro⟨i,ot,acc⟩w⟨hi,xy,qA,V2,hV2,H⟩;dsimp only at hi xy qA H |-;by_cases hlt:i<T.length;rotate_left
 ·rw[if_neg hlt]at xy;subst xy;obtain⟨V3,aw,H,hro⟩:=Rel.aT H (λ_=>rfl) ag;refine wk ?_;exact⟨V3,ot,hV2.trans aw,H.sx,rfl,hro,by have:i*1300000000<=600*1300000000:=iD _ aa;omega⟩
 rw[if_pos hlt]at xy;obtain⟨p0,c0⟩:=(h1.up hV2).aX (g:=λx:Sl=>x.v) (λ_=>rfl) (i:=i) aa;obtain⟨gs,g1,g2⟩:=h2.all i (xs[i]'aa) T[i] (a8 _) (a8 _);have Qi:=bZ hlt;have Ac:=Sb (aO n) Z (R:=T) (k:=0) hlt;rw[<-hR,dU]at Ac;obtain⟨r,hr⟩:∃r,r=T[i]:=⟨_,rfl⟩
 obtain⟨x,hx⟩:∃x,x=xs[i]'aa:=⟨_,rfl⟩
 obtain⟨hr1,hr2⟩:=hrl r (by rw[hr];exact cj hlt);rw[<-hr]at g2 Qi Ac;rw[<-hx]at c0 g1;have I7:=g1.len;have I8:=g2.len;obtain⟨N,hN⟩:∃N,N=(T.take i).flatten.length:=⟨_,rfl⟩
 have hNb:N<=360000:=by
  have:=PQ (m:=600) (L:=T.take i) λr hr=>(hrl r (List.mem_of_mem_take hr)).1;rw[bb]at this;omega
 rw[<-hN]at Ac |-;obtain⟨rm,Kb⟩:∃rm,rm=qO (aO n) Z N r:=⟨_,rfl⟩
 rw[<-Kb]at Ac;have ajj:rm.length=r.length:=by rw[Kb,Sf]
 refine wk ?_;refine aY (S:=Nat×Sl×ad) ah [0,1,2,5,6,10,11,12,13,17,18,67] (λz=>[(3,z.2.1.v),(4,iv ((N+z.1:Nat):Int)),(19,iv z.1)]) (λz w'=>z.1<=r.length/\z.2.2=acc++eY (aO n) (rm.take z.1)/\z.2.2.length<=acc.length+z.1*2097155/\∃V3,Sub V V3/\Rel W V [.row z.2.1 5 1 (z.2.2.flatMap aE),.ax b1 (iy n k rs qs o) 187] V3 w') (λz _=>r.length-z.1) (0,ot,acc) ?_;conv=>whnf
 refine⟨sB,⟨aa,?_,ai,V2,hV2,H⟩,?_⟩
 ·show acc=acc++eY (aO n) [];simp[eY]
 clear H;rintro⟨j,o2,kG⟩w⟨hj,xz,xA,V3,aw,H⟩;dsimp only at hj xz xA H |-;have hmi:i*1300000000<=600*1300000000:=iD _ aa;have hmj:j*2097155<=600*2097155:=iD _ aa;by_cases gT:j<r.length;rotate_left
 ·obtain rfl:j=r.length:=aa;rw[bR aa]at xz;have CO:(T.take (i+1)).flatten.length=N+r.length:=by rw[Qi,List.flatten_append,aq,<-hN];simp
  have Cq:R.take (i+1)=R.take i++[rm]:=by
   obtain⟨q1,q2⟩:=cW.1 Ac;rw[bZ q1,q2]
  have mw:(i+1)*1300000000=i*1300000000+1300000000:=mL _ _;by_cases JQ:i+1<T.length
  ·refine wk ?_;refine(B7 H.data n k).use ?_;rintro v w⟨V4,er,aG,K,rfl,kQ⟩;(replace H:=Rel.call H K);simp only[aA]at H;refine wk ?_;refine Rel.eJ H (i:=0) rfl kQ aa ?_;clear H;intro o5 w H;simp only[bC]at H;refine wk ?_;refine⟨sB,(i+1,o5,kG++cd k),⟨rfl,?_,rfl,trivial⟩,⟨by dsimp only;omega,?_,?_,V4,aw.trans aG,H⟩,by dsimp only;omega⟩
   ·show some (Value.int .i64 _)=some (.int .i64 _);dsimp only;rw[CO]
   ·dsimp only;rw[if_pos JQ,Cq,bT,xz,xy];simp
   ·dsimp only;rw[aq];omega
  ·have cJ:=ZN (aO n) (cd k) o (R:=R) (i:=i) (r:=rm) aa Ac;cases o with
   | false =>
    rw[if_neg ag]at cJ;refine wk ?_;refine(B7 H.data n k).use ?_;rintro v w⟨V4,er,aG,K,rfl,kQ⟩;(replace H:=Rel.call H K);simp only[aA]at H;refine wk ?_;refine Rel.eJ H (i:=0) rfl kQ aa ?_;clear H;intro o5 w H;simp only[bC]at H;refine wk ?_;refine⟨sB,(i+1,o5,kG++cd k),⟨rfl,?_,rfl,trivial⟩,⟨by dsimp only;omega,?_,?_,V4,aw.trans aG,H⟩,by dsimp only;omega⟩
    ·show some (Value.int .i64 _)=some (.int .i64 _);dsimp only;rw[CO]
    ·dsimp only;rw[if_neg JQ,cJ,xz,xy]
    ·dsimp only;rw[aq];omega
   | true =>
    rw[if_pos rfl,cm]at cJ;refine wk ?_;refine⟨sB,(i+1,o2,kG),⟨rfl,?_,rfl,trivial⟩,⟨by dsimp only;omega,?_,?_,V3,aw,H⟩,by dsimp only;omega⟩
    ·show some (Value.int .i64 _)=some (.int .i64 _);dsimp only;rw[CO]
    ·dsimp only;rw[if_neg JQ,cJ,xz,xy]
    ·dsimp only;omega
 obtain⟨p1,c1⟩:=(g1.up aw).aX (g:=λx:Sl=>x.v) (λ_=>rfl) (i:=j) aa;have Kp:=g2.all j (gs[j]'aa) r[j] (a8 _) (a8 _);have JV:=Se (aO n) Z (r:=r) (k:=N) gT;rw[<-Kb]at JV;obtain⟨g,hg⟩:∃g,g=gs[j]'aa:=⟨_,rfl⟩
 obtain⟨y,Ru⟩:∃y,y=r[j]:=⟨_,rfl⟩
 have sw:=hr2 y (by rw[Ru];exact cj gT);rw[<-hg]at c1 Kp;rw[<-Ru]at Kp JV;have hy:=Kp.up aw;have Au:y.length<=100000000:=Nat.le_trans sw ag;have Ap:rm.take (j+1)=rm.take j++[kf (aO n) Z (N+j) y]:=by
  obtain⟨q1,q2⟩:=cW.1 JV;rw[bZ q1,q2]
 by_cases hj0:j=0
 ·have mD:acc++eY (aO n) (rm.take (j+1))=kG++gz (kf (aO n) Z (N+j) y):=by
   rw[Ap,xz,hj0];simp[eY]
  refine wk ?_;refine(KM H.data (sV hT aw) (hM.up aw) hn k hy Au).use ?_;rintro v w⟨rfl,K⟩;(replace H:=Rel.call H K);simp only[aA]at H;cases hN:eA (aO n) y with
  | true =>
   have hq:(eA (aO n) y||Z.contains (N+j))=true:=by rw[hN];rfl
   have hout:gz (kf (aO n) Z (N+j) y)=34::(cx y++[34]):=by unfold kf gz;rw[hq];rfl
   refine wk ?_;refine H.nA ?_;clear H;intro w mg H;replace H:=H.bA (c':=([34]:ad).flatMap aE) rfl;obtain⟨U1,xu,H1,q1⟩:=H.bt;clear H;have H:=H1;clear H1;refine wk ?_;refine H.nA ?_;clear H;intro w wN H;replace H:=H.bA (c':=([34]:ad).flatMap aE) rfl;obtain⟨U2,qy,H1,q2⟩:=H.bt;clear H;have H:=H1;clear H1;refine wk ?_;refine H.nA ?_;clear H;intro w uP H;replace H:=H.bA (c':=([34,34]:ad).flatMap aE) rfl;obtain⟨U3,mj,H1,q3⟩:=H.bt;clear H;have H:=H1;clear H1;have hU:=(xu.trans qy).trans mj;have k1:ay U3 ⟨some ⟨mg,0,none⟩,1,1⟩ [34]:=⟨rfl,aK _,q1.cells.fa (qy.trans mj)⟩
   have k2:ay U3 ⟨some ⟨wN,0,none⟩,1,1⟩ [34]:=⟨rfl,aK _,q2.cells.fa mj⟩
   have k3:ay U3 ⟨some ⟨uP,0,none⟩,2,2⟩ [34,34]:=⟨rfl,aK _,q3.cells⟩
   refine wk ?_;refine(GL H.data (hy.up hU) Au k2 k3).use ?_;rintro v w⟨U4,er,qz,K,rfl,kQ⟩;(replace H:=Rel.call H K);simp only[aA]at H;refine wk ?_;refine H.nA ?_;clear H;intro w qi H;replace H:=H.bA (c':=([34]:ad).flatMap aE) rfl;obtain⟨U5,ml,H1,q4⟩:=H.bt;clear H;have H:=H1;clear H1;refine wk ?_;refine H.nA ?_;clear H;intro w wO H;obtain⟨U6,jQ,H1,q5⟩:=H.bt;clear H;have H:=H1;clear H1;have hll:aB cZ U6 ⟨some ⟨wO,0,none⟩,3,3⟩ [⟨some ⟨mg,0,none⟩,1,1⟩,er,⟨some ⟨qi,0,none⟩,1,1⟩]:=⟨rfl,aK _,q5.cells⟩
   have hpw:Pw ju U6 [⟨some ⟨mg,0,none⟩,1,1⟩,er,⟨some ⟨qi,0,none⟩,1,1⟩] [[34],cx y,[34]]:=⟨rfl,λi x y hx hy=>by
    match i,hx,hy with
    | 0,hx,hy=>cases hx;cases hy;exact k1.up ((qz.trans ml).trans jQ)
    | 1,hx,hy=>cases hx;cases hy;exact kQ.up (ml.trans jQ)
    | 2,hx,hy=>cases hx;cases hy;exact⟨rfl,aK _,q4.cells.fa jQ⟩
    | i+3,hx,hy=>simp at hx⟩
   have cJ:([[34],cx y,[34]]:bg).flatten=34::(cx y++[34]):=ai;have JF:=rS y;have JD:y.count 34<=y.length:=Gr;refine wk ?_;refine(nf H.data hll hpw (by show 3<=_;decide) (by rw[cJ];simp only[aq,av,aI];omega)).use ?_;rintro v w⟨r8,rfl,K⟩;(replace H:=Rel.call H K);simp only[aL,aA]at H;rw[cJ]at H;obtain⟨U7,xv,H1,xV⟩:=Rel.aT H (λ_=>rfl) ag;clear H;have H:=H1;clear H1;have xx:=(((aw.trans hU).trans (qz.trans ml)).trans jQ).trans xv;refine wk ?_;refine Rel.eJ H (i:=0) rfl xV (by first|omega|(simp only[aq,av,aI];omega)) ?_;clear H;intro o4 w H;simp only[bC]at H;refine wk ?_;refine⟨sB,(j+1,o4,kG++(34::(cx y++[34]))),⟨rfl,?_,rfl,trivial⟩,⟨by dsimp only;omega,?_,?_,U7,xx,H⟩,by dsimp only;omega⟩
   ·show some (Value.int .i64 _)=some (.int .i64 _);congr 2
   ·dsimp only;rw[mD,hout]
   ·simp only[aq,av,aI];omega
  | false =>
   refine wk ?_;refine(Il H.data (jd.up aw) (by rw[bu];omega) ((N+j:Nat):Int)).use ?_;rintro v w⟨rfl,K⟩;(replace H:=Rel.call H K);simp only[aA]at H;rw[Sy];cases hZ:Z.contains (N+j)with
   | true =>
    have hq:(eA (aO n) y||Z.contains (N+j))=true:=by rw[hZ,Bool.or_true]
    have hout:gz (kf (aO n) Z (N+j) y)=34::(cx y++[34]):=by unfold kf gz;rw[hq];rfl
    refine wk ?_;refine H.nA ?_;clear H;intro w mg H;replace H:=H.bA (c':=([34]:ad).flatMap aE) rfl;obtain⟨U1,xu,H1,q1⟩:=H.bt;clear H;have H:=H1;clear H1;refine wk ?_;refine H.nA ?_;clear H;intro w wN H;replace H:=H.bA (c':=([34]:ad).flatMap aE) rfl;obtain⟨U2,qy,H1,q2⟩:=H.bt;clear H;have H:=H1;clear H1;refine wk ?_;refine H.nA ?_;clear H;intro w uP H;replace H:=H.bA (c':=([34,34]:ad).flatMap aE) rfl;obtain⟨U3,mj,H1,q3⟩:=H.bt;clear H;have H:=H1;clear H1;have hU:=(xu.trans qy).trans mj;have k1:ay U3 ⟨some ⟨mg,0,none⟩,1,1⟩ [34]:=⟨rfl,aK _,q1.cells.fa (qy.trans mj)⟩
    have k2:ay U3 ⟨some ⟨wN,0,none⟩,1,1⟩ [34]:=⟨rfl,aK _,q2.cells.fa mj⟩
    have k3:ay U3 ⟨some ⟨uP,0,none⟩,2,2⟩ [34,34]:=⟨rfl,aK _,q3.cells⟩
    refine wk ?_;refine(GL H.data (hy.up hU) Au k2 k3).use ?_;rintro v w⟨U4,er,qz,K,rfl,kQ⟩;(replace H:=Rel.call H K);simp only[aA]at H;refine wk ?_;refine H.nA ?_;clear H;intro w qi H;replace H:=H.bA (c':=([34]:ad).flatMap aE) rfl;obtain⟨U5,ml,H1,q4⟩:=H.bt;clear H;have H:=H1;clear H1;refine wk ?_;refine H.nA ?_;clear H;intro w wO H;obtain⟨U6,jQ,H1,q5⟩:=H.bt;clear H;have H:=H1;clear H1;have hll:aB cZ U6 ⟨some ⟨wO,0,none⟩,3,3⟩ [⟨some ⟨mg,0,none⟩,1,1⟩,er,⟨some ⟨qi,0,none⟩,1,1⟩]:=⟨rfl,aK _,q5.cells⟩
    have hpw:Pw ju U6 [⟨some ⟨mg,0,none⟩,1,1⟩,er,⟨some ⟨qi,0,none⟩,1,1⟩] [[34],cx y,[34]]:=⟨rfl,λi x y hx hy=>by
     match i,hx,hy with
     | 0,hx,hy=>cases hx;cases hy;exact k1.up ((qz.trans ml).trans jQ)
     | 1,hx,hy=>cases hx;cases hy;exact kQ.up (ml.trans jQ)
     | 2,hx,hy=>cases hx;cases hy;exact⟨rfl,aK _,q4.cells.fa jQ⟩
     | i+3,hx,hy=>simp at hx⟩
    have cJ:([[34],cx y,[34]]:bg).flatten=34::(cx y++[34]):=ai;have JF:=rS y;have JD:y.count 34<=y.length:=Gr;refine wk ?_;refine(nf H.data hll hpw (by show 3<=_;decide) (by rw[cJ];simp only[aq,av,aI];omega)).use ?_;rintro v w⟨r8,rfl,K⟩;(replace H:=Rel.call H K);simp only[aL,aA]at H;rw[cJ]at H;obtain⟨U7,xv,H1,xV⟩:=Rel.aT H (λ_=>rfl) ag;clear H;have H:=H1;clear H1;have xx:=(((aw.trans hU).trans (qz.trans ml)).trans jQ).trans xv;refine wk ?_;refine Rel.eJ H (i:=0) rfl xV (by first|omega|(simp only[aq,av,aI];omega)) ?_;clear H;intro o4 w H;simp only[bC]at H;refine wk ?_;refine⟨sB,(j+1,o4,kG++(34::(cx y++[34]))),⟨rfl,?_,rfl,trivial⟩,⟨by dsimp only;omega,?_,?_,U7,xx,H⟩,by dsimp only;omega⟩
    ·show some (Value.int .i64 _)=some (.int .i64 _);congr 2
    ·dsimp only;rw[mD,hout]
    ·simp only[aq,av,aI];omega
   | false =>
    have hout:gz (kf (aO n) Z (N+j) y)=y:=by unfold kf gz;rw[hN,hZ];rfl
    refine wk ?_;refine Rel.eJ H (i:=0) rfl hy (by first|omega|(simp only[aq,av,aI];omega)) ?_;clear H;intro o4 w H;simp only[bC]at H;refine wk ?_;refine⟨sB,(j+1,o4,kG++y),⟨rfl,?_,rfl,trivial⟩,⟨by dsimp only;omega,?_,?_,V3,aw,H⟩,by dsimp only;omega⟩
    ·show some (Value.int .i64 _)=some (.int .i64 _);congr 2
    ·dsimp only;rw[mD,hout]
    ·simp only[aq,av,aI];omega
 ·have mD:acc++eY (aO n) (rm.take (j+1))=(kG++[aO n])++gz (kf (aO n) Z (N+j) y):=by
   rw[Ap,xz,SK _ _ (List.ne_nil_of_length_pos (by rw[bb];omega))];simp
  have hgs:=GZ hn;refine H.wg ?_;clear H;intro _ w H;refine Rel.dC (f:=aE) (s:=o2) (l:=kG) (x:=aO n) ah rfl rfl rfl rfl rfl ag (λ_=>rfl) (by simp[Value.oneCell']) H (by show(kG.length+1)*1<=_;omega) aa ?_;clear H;intro o3 w H;refine wk ?_;refine(KM H.data (sV hT aw) (hM.up aw) hn k hy Au).use ?_;rintro v w⟨rfl,K⟩;(replace H:=Rel.call H K);simp only[aA]at H;cases hN:eA (aO n) y with
  | true =>
   have hq:(eA (aO n) y||Z.contains (N+j))=true:=by rw[hN];rfl
   have hout:gz (kf (aO n) Z (N+j) y)=34::(cx y++[34]):=by unfold kf gz;rw[hq];rfl
   refine wk ?_;refine H.nA ?_;clear H;intro w mg H;replace H:=H.bA (c':=([34]:ad).flatMap aE) rfl;obtain⟨U1,xu,H1,q1⟩:=H.bt;clear H;have H:=H1;clear H1;refine wk ?_;refine H.nA ?_;clear H;intro w wN H;replace H:=H.bA (c':=([34]:ad).flatMap aE) rfl;obtain⟨U2,qy,H1,q2⟩:=H.bt;clear H;have H:=H1;clear H1;refine wk ?_;refine H.nA ?_;clear H;intro w uP H;replace H:=H.bA (c':=([34,34]:ad).flatMap aE) rfl;obtain⟨U3,mj,H1,q3⟩:=H.bt;clear H;have H:=H1;clear H1;have hU:=(xu.trans qy).trans mj;have k1:ay U3 ⟨some ⟨mg,0,none⟩,1,1⟩ [34]:=⟨rfl,aK _,q1.cells.fa (qy.trans mj)⟩
   have k2:ay U3 ⟨some ⟨wN,0,none⟩,1,1⟩ [34]:=⟨rfl,aK _,q2.cells.fa mj⟩
   have k3:ay U3 ⟨some ⟨uP,0,none⟩,2,2⟩ [34,34]:=⟨rfl,aK _,q3.cells⟩
   refine wk ?_;refine(GL H.data (hy.up hU) Au k2 k3).use ?_;rintro v w⟨U4,er,qz,K,rfl,kQ⟩;(replace H:=Rel.call H K);simp only[aA]at H;refine wk ?_;refine H.nA ?_;clear H;intro w qi H;replace H:=H.bA (c':=([34]:ad).flatMap aE) rfl;obtain⟨U5,ml,H1,q4⟩:=H.bt;clear H;have H:=H1;clear H1;refine wk ?_;refine H.nA ?_;clear H;intro w wO H;obtain⟨U6,jQ,H1,q5⟩:=H.bt;clear H;have H:=H1;clear H1;have hll:aB cZ U6 ⟨some ⟨wO,0,none⟩,3,3⟩ [⟨some ⟨mg,0,none⟩,1,1⟩,er,⟨some ⟨qi,0,none⟩,1,1⟩]:=⟨rfl,aK _,q5.cells⟩
   have hpw:Pw ju U6 [⟨some ⟨mg,0,none⟩,1,1⟩,er,⟨some ⟨qi,0,none⟩,1,1⟩] [[34],cx y,[34]]:=⟨rfl,λi x y hx hy=>by
    match i,hx,hy with
    | 0,hx,hy=>cases hx;cases hy;exact k1.up ((qz.trans ml).trans jQ)
    | 1,hx,hy=>cases hx;cases hy;exact kQ.up (ml.trans jQ)
    | 2,hx,hy=>cases hx;cases hy;exact⟨rfl,aK _,q4.cells.fa jQ⟩
    | i+3,hx,hy=>simp at hx⟩
   have cJ:([[34],cx y,[34]]:bg).flatten=34::(cx y++[34]):=ai;have JF:=rS y;have JD:y.count 34<=y.length:=Gr;refine wk ?_;refine(nf H.data hll hpw (by show 3<=_;decide) (by rw[cJ];simp only[aq,av,aI];omega)).use ?_;rintro v w⟨r8,rfl,K⟩;(replace H:=Rel.call H K);simp only[aL,aA]at H;rw[cJ]at H;obtain⟨U7,xv,H1,xV⟩:=Rel.aT H (λ_=>rfl) ag;clear H;have H:=H1;clear H1;have xx:=(((aw.trans hU).trans (qz.trans ml)).trans jQ).trans xv;refine wk ?_;refine Rel.eJ H (i:=0) rfl xV (by first|omega|(simp only[aq,av,aI];omega)) ?_;clear H;intro o4 w H;simp only[bC]at H;refine wk ?_;refine⟨sB,(j+1,o4,(kG++[aO n])++(34::(cx y++[34]))),⟨rfl,?_,rfl,trivial⟩,⟨by dsimp only;omega,?_,?_,U7,xx,H⟩,by dsimp only;omega⟩
   ·show some (Value.int .i64 _)=some (.int .i64 _);congr 2
   ·dsimp only;rw[mD,hout]
   ·simp only[aq,av,aI];omega
  | false =>
   refine wk ?_;refine(Il H.data (jd.up aw) (by rw[bu];omega) ((N+j:Nat):Int)).use ?_;rintro v w⟨rfl,K⟩;(replace H:=Rel.call H K);simp only[aA]at H;rw[Sy];cases hZ:Z.contains (N+j)with
   | true =>
    have hq:(eA (aO n) y||Z.contains (N+j))=true:=by rw[hZ,Bool.or_true]
    have hout:gz (kf (aO n) Z (N+j) y)=34::(cx y++[34]):=by unfold kf gz;rw[hq];rfl
    refine wk ?_;refine H.nA ?_;clear H;intro w mg H;replace H:=H.bA (c':=([34]:ad).flatMap aE) rfl;obtain⟨U1,xu,H1,q1⟩:=H.bt;clear H;have H:=H1;clear H1;refine wk ?_;refine H.nA ?_;clear H;intro w wN H;replace H:=H.bA (c':=([34]:ad).flatMap aE) rfl;obtain⟨U2,qy,H1,q2⟩:=H.bt;clear H;have H:=H1;clear H1;refine wk ?_;refine H.nA ?_;clear H;intro w uP H;replace H:=H.bA (c':=([34,34]:ad).flatMap aE) rfl;obtain⟨U3,mj,H1,q3⟩:=H.bt;clear H;have H:=H1;clear H1;have hU:=(xu.trans qy).trans mj;have k1:ay U3 ⟨some ⟨mg,0,none⟩,1,1⟩ [34]:=⟨rfl,aK _,q1.cells.fa (qy.trans mj)⟩
    have k2:ay U3 ⟨some ⟨wN,0,none⟩,1,1⟩ [34]:=⟨rfl,aK _,q2.cells.fa mj⟩
    have k3:ay U3 ⟨some ⟨uP,0,none⟩,2,2⟩ [34,34]:=⟨rfl,aK _,q3.cells⟩
    refine wk ?_;refine(GL H.data (hy.up hU) Au k2 k3).use ?_;rintro v w⟨U4,er,qz,K,rfl,kQ⟩;(replace H:=Rel.call H K);simp only[aA]at H;refine wk ?_;refine H.nA ?_;clear H;intro w qi H;replace H:=H.bA (c':=([34]:ad).flatMap aE) rfl;obtain⟨U5,ml,H1,q4⟩:=H.bt;clear H;have H:=H1;clear H1;refine wk ?_;refine H.nA ?_;clear H;intro w wO H;obtain⟨U6,jQ,H1,q5⟩:=H.bt;clear H;have H:=H1;clear H1;have hll:aB cZ U6 ⟨some ⟨wO,0,none⟩,3,3⟩ [⟨some ⟨mg,0,none⟩,1,1⟩,er,⟨some ⟨qi,0,none⟩,1,1⟩]:=⟨rfl,aK _,q5.cells⟩
    have hpw:Pw ju U6 [⟨some ⟨mg,0,none⟩,1,1⟩,er,⟨some ⟨qi,0,none⟩,1,1⟩] [[34],cx y,[34]]:=⟨rfl,λi x y hx hy=>by
     match i,hx,hy with
     | 0,hx,hy=>cases hx;cases hy;exact k1.up ((qz.trans ml).trans jQ)
     | 1,hx,hy=>cases hx;cases hy;exact kQ.up (ml.trans jQ)
     | 2,hx,hy=>cases hx;cases hy;exact⟨rfl,aK _,q4.cells.fa jQ⟩
     | i+3,hx,hy=>simp at hx⟩
    have cJ:([[34],cx y,[34]]:bg).flatten=34::(cx y++[34]):=ai;have JF:=rS y;have JD:y.count 34<=y.length:=Gr;refine wk ?_;refine(nf H.data hll hpw (by show 3<=_;decide) (by rw[cJ];simp only[aq,av,aI];omega)).use ?_;rintro v w⟨r8,rfl,K⟩;(replace H:=Rel.call H K);simp only[aL,aA]at H;rw[cJ]at H;obtain⟨U7,xv,H1,xV⟩:=Rel.aT H (λ_=>rfl) ag;clear H;have H:=H1;clear H1;have xx:=(((aw.trans hU).trans (qz.trans ml)).trans jQ).trans xv;refine wk ?_;refine Rel.eJ H (i:=0) rfl xV (by first|omega|(simp only[aq,av,aI];omega)) ?_;clear H;intro o4 w H;simp only[bC]at H;refine wk ?_;refine⟨sB,(j+1,o4,(kG++[aO n])++(34::(cx y++[34]))),⟨rfl,?_,rfl,trivial⟩,⟨by dsimp only;omega,?_,?_,U7,xx,H⟩,by dsimp only;omega⟩
    ·show some (Value.int .i64 _)=some (.int .i64 _);congr 2
    ·dsimp only;rw[mD,hout]
    ·simp only[aq,av,aI];omega
   | false =>
    have hout:gz (kf (aO n) Z (N+j) y)=y:=by unfold kf gz;rw[hN,hZ];rfl
    refine wk ?_;refine Rel.eJ H (i:=0) rfl hy (by first|omega|(simp only[aq,av,aI];omega)) ?_;clear H;intro o4 w H;simp only[bC]at H;refine wk ?_;refine⟨sB,(j+1,o4,(kG++[aO n])++y),⟨rfl,?_,rfl,trivial⟩,⟨by dsimp only;omega,?_,?_,V3,aw,H⟩,by dsimp only;omega⟩
    ·show some (Value.int .i64 _)=some (.int .i64 _);congr 2
    ·dsimp only;rw[mD,hout]
    ·simp only[aq,av,aI];omega
end
structure W6(W V:ae)(o:Option (Nat×au))(v:ao)(w':ae):Prop where
 ex:∃(V':ae) (n:Nat) (k:Bool) (qs:Sl) (p g:Bool),Sub V V'/\Rel W V [] V' w'/\v=.tuple #[.agg (iy n k ⟨none,0,0⟩ qs p).toArray,.bool g]/\(match o with
  | none=>g=false
  | some x=>g=true/\n=x.1%3/\k=decide (x.1/3%2=1)/\p=decide (6<=x.1)/\aB cK V' qs (nz x.2))
section
variable{V W:ae}
theorem aff(hV:Sub V W){s:Sl}{b:ad}(hs:ay V s b)(hl:b.length<=1099511627776):aC 155 [s.v] W (W6 W V (lZ b)):=by
 have H:=Rel.start hV;have hlen:=hs.len;refine eV Tryz.func155 99 [0,2,3,4,5,6,7,8,9,10,13,31,57,59,60,61,62,84] ?_;refine wk ?_;refine H.nA ?_;clear H;intro w b2 H;by_cases h0:b.length=0
 ·have hb:b=[]:=bL h0;have e:lZ b=some (0,[]):=by rw[hb];exact ahg
  rw[e];refine H.wg ?_;clear H;intro w H;exact⟨V,0,false,⟨none,0,0⟩,false,true,Sub.refl _,H.sx,rfl,rfl,rfl,rfl,rfl,aB.nil _ _⟩
 have hb:b≠[]:=λh=>h0 (by rw[h];rfl);have bF:lZ b=match qa b with
  | none=>none
  | some (c,z)=>if(0<=c/\c<12)/\¬(c=0/\z=[])/\kr z then some (c.toNat,z.map Int.toNat)else none:=by
  unfold lZ
  rw[if_neg hb]
  cases qa b<;>rfl
 rw[bF];refine wk ?_;refine(mN (p:=0) H.data hs hl (cu _)).use ?_;rintro v w⟨rfl,K⟩;(replace H:=Rel.call H K);simp only[aA]at H;cases hn:cD b 0 with
 | bad c i =>
  have dR:=mH hn;have e:qa b=none:=by unfold qa;rw[hn]
  rw[e];refine wk ?_;refine H.nA ?_;clear H;intro w b6 H;refine H.wg ?_;clear H;intro _ w H;exact⟨V,0,false,⟨none,0,0⟩,false,false,Sub.refl _,H.sx,rfl,rfl⟩
 | ok c q =>
  obtain⟨g1,g2,g3,g4,g5⟩:=eX (cu _) hn;have gW:qa b=match bX b (cD b) 1000 q with
   | .bad _ _=>none
   | .ok z q=>if q=b.length then some (c,z)else none:=by
   unfold qa
   rw[hn]
   simp only
   cases bX b (cD b) 1000 q<;>rfl
  refine wk ?_;refine H.nA ?_;clear H;intro w b6 H;by_cases hc:c<0\/12<=c
  ·have e:(match qa b with
    | none=>none
    | some (c,z)=>if(0<=c/\c<12)/\¬(c=0/\z=[])/\kr z then some (c.toNat,z.map Int.toNat)else none)=none:=by
    rw[gW]
    cases bX b (cD b) 1000 q with
    | bad _ _=>rfl
    | ok z q' =>
     simp only
     by_cases hq:q'=b.length
     ·rw[if_pos hq];simp only;rw[if_neg aa]
     ·rw[if_neg hq]
   rw[e];by_cases tG:c<0
   all_goals
    refine H.wg ?_;clear H;intro _ w H;exact⟨V,0,false,⟨none,0,0⟩,false,false,Sub.refl _,H.sx,rfl,rfl⟩
  obtain⟨C,rfl⟩:∃C:Nat,c=C:=⟨c.toNat,aa⟩
  refine H.wg ?_;clear H;intro w H;refine(T6 (m:=1000) H.data hs hl g2 (by constructor<;>omega) (λp hp V1 W1 h1 h2=>eD.mono (mN h2 (hs.up h1) hl hp) λv w' ⟨hv,hR⟩=>?_) (λp x p' hp h=>(eX hp h).2.1)).use ?_
  ·cases xS:cD b p with
   | bad c i =>
    rw[xS]at hv;exact⟨V1,0,0,c,i,Sub.refl _,hR,hv,rfl,rfl,mH xS⟩
   | ok x q =>
    rw[xS]at hv;exact⟨V1,x,q,0,0,Sub.refl _,hR,hv,rfl,rfl,rfl,rfl⟩
  rintro v w⟨V2,x,n,c,i,hV2,K,rfl,hres⟩;(replace H:=Rel.call H K);simp only[aA]at H;cases gu:bX b (cD b) 1000 q with
  | bad c' i' =>
   rw[gu]at hres gW;obtain⟨rfl,rfl,dR⟩:=hres;rw[gW];refine H.wg ?_;clear H;intro _ w H;exact⟨V2,0,false,⟨none,0,0⟩,false,false,hV2,H.sx,rfl,rfl⟩
  | ok z q' =>
   rw[gu]at hres gW;obtain⟨rfl,rfl,rfl,hns⟩:=hres;obtain⟨ps,hps,hpw⟩:=hns;obtain rfl:=Tf hpw;have hxl:=hps.len;have Q1:=RT gu;simp only at gW;by_cases hq:q'=b.length;rotate_left
   ·rw[if_neg hq]at gW;rw[gW];refine H.wg ?_;clear H;intro _ w H;exact⟨V2,0,false,⟨none,0,0⟩,false,false,hV2,H.sx,rfl,rfl⟩
   rw[if_pos hq]at gW;rw[gW];simp only;by_cases h2:C=0/\ps=[]
   ·rw[if_neg (λh=>h.2.1 ⟨aa,h2.2⟩)];have h3:ps.length=0:=by rw[h2.2];rfl
    obtain⟨rfl,_⟩:=h2;refine H.wg ?_;clear H;intro _ w H;exact⟨V2,0,false,⟨none,0,0⟩,false,false,hV2,H.sx,rfl,rfl⟩
   have hnn:C=0->ps.length≠0:=λh h3=>h2 ⟨h,bL h3⟩;have CG:(if(0<=(C:Int)/\(C:Int)<12)/\¬((C:Int)=0/\ps=[])/\kr ps then some ((C:Int).toNat,ps.map Int.toNat)else none)=if kr ps then some (C,ps.map Int.toNat)else none:=by
    by_cases hz:kr ps
    ·rw[if_pos hz,if_pos ⟨aa,λh=>h2 ⟨aa,h.2⟩,hz⟩];rfl
    ·rw[if_neg hz,if_neg λh=>hz h.2.2]
   rw[CG];by_cases hC:C=0
   ·have Q4:=hnn hC;refine H.wg ?_;clear H;intro w H;refine aY (S:=Nat) ah [0,2,4,5,6,7,10,13,31,57,59,60] (λj=>[(61,iv j)]) (λj w'=>j<=ps.length/\kr (ps.take j)/\∃b,Rel W V [.ax b [iv 0,iv 0] 31,.ax b2 (iy 0 false ⟨none,0,0⟩ ⟨none,0,0⟩ false) 187] V2 w') (λj _=>ps.length-j) 0 ?_;conv=>whnf
    refine⟨sB,⟨aa,SF,_,H⟩,?_⟩;clear H;rintro j w⟨hj,hok,XN,H⟩;by_cases gT:j<ps.length
    ·obtain⟨p0,c0⟩:=hps.aX (g:=iv) (λ_=>rfl) gT;obtain⟨z,hz⟩:∃z,z=ps[j]:=⟨_,rfl⟩
     rw[<-hz]at c0;have hno:(z<0\/1000<z\/∃h:0<j,z<=ps[j-1])->¬kr ps:=λh=>SE gT (by rw[<-hz];exact h);by_cases h1:z<0
     ·rw[if_neg (hno (.inl h1))];refine H.wg ?_;clear H;intro w H;exact⟨V2,0,false,⟨none,0,0⟩,false,false,hV2,H.sx,rfl,rfl⟩
     by_cases h2:1000<z
     ·rw[if_neg (hno (.inr (.inl h2)))];refine H.wg ?_;clear H;intro w H;exact⟨V2,0,false,⟨none,0,0⟩,false,false,hV2,H.sx,rfl,rfl⟩
     by_cases h3:0<j
     ·obtain⟨_,c1⟩:=hps.aX (g:=iv) (i:=j-1) (λ_=>rfl) aa;obtain⟨y,hy⟩:∃y,y=ps[j-1]'aa:=⟨_,rfl⟩
      rw[<-hy,show j-1=(((j:Nat):Int)-1).toNat by omega]at c1;by_cases h4:z<=y
      ·rw[if_neg (hno (.inr (.inr ⟨h3,by rw[<-hy];exact h4⟩)))];refine H.wg ?_;clear H;intro w H;exact⟨V2,0,false,⟨none,0,0⟩,false,false,hV2,H.sx,rfl,rfl⟩
      ·refine wk ?_;exact⟨sB,j+1,sB,⟨aa,FY gT hok (by rw[<-hz];omega) (by rw[<-hz];omega) (λ_=>by rw[<-hz,<-hy];omega),_,H.sx⟩,aa⟩
     ·refine wk ?_;exact⟨sB,j+1,sB,⟨aa,FY gT hok (by rw[<-hz];omega) (by rw[<-hz];omega) (λh=>absurd h h3),_,H.sx⟩,aa⟩
    ·rw[bR aa]at hok;rw[if_pos hok];have hnn:nz (ps.map Int.toNat)=ps:=by
      unfold nz;rw[kz];conv=>rhs;rw[<-pT ps]
      refine kY λx hx=>?_;have:=(hok.1 x hx).1;show((x.toNat:Nat):Int)=x;omega
     refine H.wg ?_;clear H;intro _ _ _ w H;rw[show decide (((C:Nat):Int)/3%2=1)=decide (C/3%2=1)from decide_eq_decide.2 aa,show decide (6<=((C:Nat):Int))=decide (6<=C)from decide_eq_decide.2 aa];exact⟨V2,C%3,_,x,_,true,hV2,H.sx,rfl,rfl,rfl,rfl,rfl,by rw[hnn];exact hps⟩
   ·refine H.wg ?_;clear H;intro w H;refine aY (S:=Nat) ah [0,2,4,5,6,7,10,13,31,57,59,60] (λj=>[(61,iv j)]) (λj w'=>j<=ps.length/\kr (ps.take j)/\∃b,Rel W V [.ax b [iv 0,iv 0] 31,.ax b2 (iy 0 false ⟨none,0,0⟩ ⟨none,0,0⟩ false) 187] V2 w') (λj _=>ps.length-j) 0 ?_;conv=>whnf
    refine⟨sB,⟨aa,SF,_,H⟩,?_⟩;clear H;rintro j w⟨hj,hok,XN,H⟩;by_cases gT:j<ps.length
    ·obtain⟨p0,c0⟩:=hps.aX (g:=iv) (λ_=>rfl) gT;obtain⟨z,hz⟩:∃z,z=ps[j]:=⟨_,rfl⟩
     rw[<-hz]at c0;have hno:(z<0\/1000<z\/∃h:0<j,z<=ps[j-1])->¬kr ps:=λh=>SE gT (by rw[<-hz];exact h);by_cases h1:z<0
     ·rw[if_neg (hno (.inl h1))];refine H.wg ?_;clear H;intro w H;exact⟨V2,0,false,⟨none,0,0⟩,false,false,hV2,H.sx,rfl,rfl⟩
     by_cases h2:1000<z
     ·rw[if_neg (hno (.inr (.inl h2)))];refine H.wg ?_;clear H;intro w H;exact⟨V2,0,false,⟨none,0,0⟩,false,false,hV2,H.sx,rfl,rfl⟩
     by_cases h3:0<j
     ·obtain⟨_,c1⟩:=hps.aX (g:=iv) (i:=j-1) (λ_=>rfl) aa;obtain⟨y,hy⟩:∃y,y=ps[j-1]'aa:=⟨_,rfl⟩
      rw[<-hy,show j-1=(((j:Nat):Int)-1).toNat by omega]at c1;by_cases h4:z<=y
      ·rw[if_neg (hno (.inr (.inr ⟨h3,by rw[<-hy];exact h4⟩)))];refine H.wg ?_;clear H;intro w H;exact⟨V2,0,false,⟨none,0,0⟩,false,false,hV2,H.sx,rfl,rfl⟩
      ·refine wk ?_;exact⟨sB,j+1,sB,⟨aa,FY gT hok (by rw[<-hz];omega) (by rw[<-hz];omega) (λ_=>by rw[<-hz,<-hy];omega),_,H.sx⟩,aa⟩
     ·refine wk ?_;exact⟨sB,j+1,sB,⟨aa,FY gT hok (by rw[<-hz];omega) (by rw[<-hz];omega) (λh=>absurd h h3),_,H.sx⟩,aa⟩
    ·rw[bR aa]at hok;rw[if_pos hok];have hnn:nz (ps.map Int.toNat)=ps:=by
      unfold nz;rw[kz];conv=>rhs;rw[<-pT ps]
      refine kY λx hx=>?_;have:=(hok.1 x hx).1;show((x.toNat:Nat):Int)=x;omega
     refine H.wg ?_;clear H;intro _ _ _ w H;rw[show decide (((C:Nat):Int)/3%2=1)=decide (C/3%2=1)from decide_eq_decide.2 aa,show decide (6<=((C:Nat):Int))=decide (6<=C)from decide_eq_decide.2 aa];exact⟨V2,C%3,_,x,_,true,hV2,H.sx,rfl,rfl,rfl,rfl,rfl,by rw[hnn];exact hps⟩
end
theorem agw(hB:VB 1048576 v)(hf:(bI v).1=0){T:jN}(h:jJ v=some T):T.length<=600/\∀r∈T,r.length<=600/\∀x∈r,x.length<=1048576:=by
 have kj:=Nb hf;have abf:=(Bk hf).2;unfold jJ at h;split at h
 ·obtain⟨h1,h2⟩:=o0 h;refine⟨aa,λr hr=>?_⟩;obtain⟨i,hi⟩:=uh.1 hr;have eE:=(cW.1 hi).1;have hp:v.parts[i]?=some (v.parts[i]'aa):=a8 _;have hro:=h2 i _ _ hp hi;have xT:v.parts[i]'aa∈v.parts:=cj _;generalize v.parts[i]'(by omega)=p at hro xT;have hpc:=(nB (abf p xT)).2.2.1;have tP:=hB.part p xT;unfold rh at hro;split at hro
  ·obtain⟨h3,h4⟩:=o0 hro;refine⟨aa,λx hx=>?_⟩;obtain⟨j,hj⟩:=uh.1 hx;have gT:=(cW.1 hj).1;have hq:p.parts[j]?=some (p.parts[j]'aa):=a8 _;have mq:=h4 j _ _ hq hj;have Rd:p.parts[j]'aa∈p.parts:=cj _;generalize p.parts[j]'(by omega)=c at mq Rd;unfold cellOf at mq;split at mq
   ·cases mq;exact(tP.part c Rd).bytes
   ·cases mq
  ·cases hro
 ·cases h
section
variable{V W:ae}
theorem aab(hV:Sub V W)(hT:nW V)(hM:mV V){h:VH}{v:ar}(hv:bV V h v)(hB:VB 1048576 v){s:Sl}{b:ad}(hs:ay V s b)(hl:b.length<=1099511627776):aC 65 [fb h,s.v] W (mT W V (ct v (jJ v).isSome (lq v b))):=by
 have H:=Rel.start hV;have hv0:=hv;have hpl:=hv.kt;obtain⟨k,n,bs,ss,pl⟩:=h;dsimp only at hpl;change aC 65 [.agg [iv k,iv n,bs.v,ss.v,pl.v].toArray,s.v] W _;refine eV Tryz.func65 72 [0,1,2,4,5,6,7,8,9,10,11,12,13,14,15,20,28,36,55,68] ?_;refine wk ?_;refine H.nA ?_;clear H;intro w b2 H;refine wk ?_;refine H.nA ?_;clear H;intro w b5 H;refine wk ?_;refine(qe H.data hv0 hB).use ?_;rintro q w⟨rfl,K⟩;(replace H:=Rel.call H K);simp only[aA]at H;refine wk ?_;refine H.nA ?_;clear H;intro w b6 H;by_cases bP:(bI v).1=0;rotate_left
 ·have e:ct v (jJ v).isSome (lq v b)=([],bI v):=by unfold ct;rw[if_pos bP]
  rw[e];refine H.wg ?_;clear H;intro w H
  first
   | (refine(rT H.data 6 (-2)).use ?_
      rintro q w⟨rfl,K⟩
      (replace H:=Rel.call H K)
      simp only[aA]at H
      (first|(refine H.Bm ?_;clear H;intros;rename_i w H;constructor)|refine wk ?_)
      exact⟨V,⟨none,0,0⟩,Sub.refl _,H.sx,rfl,aB.nil _ _⟩)
   | ((refine dV 3 [] [0,1,2] H ?_;clear H;intro w H)
      refine H.wg ?_;clear H;intro w H
      exact⟨V,⟨none,0,0⟩,Sub.refl _,H.sx,rfl,aB.nil _ _⟩)
 have qL:=oQ bP;rw[qL];refine H.wg ?_;clear H;intro w H;refine(afQ H.data hv0 hB).use ?_;rintro q w⟨V2,rs,g,hV2,K,rfl,hres⟩;(replace H:=Rel.call H K);simp only[aA]at H;cases hsh:jJ v with
 | none =>
  rw[hsh]at hres;dsimp only at hres;subst hres;have e:ct v (none:Option jN).isSome (lq v b)=([],13,0):=by unfold ct;rw[if_neg (λh=>h bP)];rfl
  rw[e];refine wk ?_;refine(rT H.data 13 0).use ?_;rintro q w⟨rfl,K⟩;(replace H:=Rel.call H K);simp only[aA]at H;refine H.wg ?_;clear H;intro w H;exact⟨V2,⟨none,0,0⟩,hV2,H.sx,rfl,aB.nil _ _⟩
 | some T =>
  rw[hsh]at hres;obtain⟨rfl,hrs⟩:=hres;obtain⟨Cs,hrl⟩:=agw hB bP hsh;have eS:lq v b=none->ct v (some T).isSome (lq v b)=([],6, -2):=λh=>by
   rw[h];unfold ct;rw[if_neg (λh=>h bP)];rfl
  refine wk ?_;refine(aff H.data (hs.up hV2) hl).use ?_;rintro q w⟨V3,m,kk,qs,p,g3,aw,K,rfl,hres⟩;(replace H:=Rel.call H K);simp only[aA]at H;have dP:=hV2.trans aw;refine wk ?_;refine H.nA ?_;clear H;intro w b9 H;cases hr:lZ b with
  | none =>
   rw[hr]at hres;obtain rfl:=hres;have e:=eS (ahc hsh hr);rw[e];refine H.wg ?_;clear H;intro w H
   first
    | (refine(rT H.data 6 (-2)).use ?_
       rintro q w⟨rfl,K⟩
       (replace H:=Rel.call H K)
       simp only[aA]at H
       refine H.wg ?_;clear H;intro w H
       exact⟨V3,⟨none,0,0⟩,dP,H.sx,rfl,aB.nil _ _⟩)
    | ((refine dV 3 [] [0,1,2] H ?_;clear H;intro w H)
       (first|(refine H.Bm ?_;clear H;intros;rename_i w H;constructor)|refine wk ?_)
       exact⟨V3,⟨none,0,0⟩,dP,H.sx,rfl,aB.nil _ _⟩)
  | some x =>
   obtain⟨fl,Z⟩:=x;rw[hr]at hres;obtain⟨rfl,rfl,rfl,rfl,hz⟩:=hres;obtain⟨hf,ni,hZ,_⟩:=ahh hr;dsimp only at hz |-;refine H.wg ?_;clear H;intro _ w H;refine(aiL H.data (sV hT dP) (hM.up dP) aa (decide (fl/3%2=1)) (decide (6<=fl)) (hrs.up aw) hz ni Cs hrl).use ?_;rintro q w⟨V4,ro,aG,K,rfl,tA,rY⟩;(replace H:=Rel.call H K);simp only[aA]at H;have kM:=dP.trans aG;obtain⟨O,hO⟩:∃O,O=ry fl Z T:=⟨_,rfl⟩
   rw[show fD (aO (fl%3)) (cd (decide (fl/3%2=1))) (decide (6<=fl)) (nu (aO (fl%3)) Z 0 T)=O from hO.symm]at tA rY;have bW:(O.length<=1000->gE O≠some (v,b))->ct v (some T).isSome (lq v b)=([],6, -2):=λq=>eS (ahd hsh hr (by rw[<-hO];exact q));refine wk ?_;refine(Vg H.data (sV hT kM) (hM.up kM) tA rY).use ?_;rintro q w⟨V5,hh,rr,aQ,K,rfl,fF,fw⟩;(replace H:=Rel.call H K);simp only[aA]at H;have cU:=kM.trans aQ;by_cases iz:1000<O.length
   ·have et:br (gE O) O.length=⟨zeroV,[],3, -1⟩:=by unfold br;rw[if_pos iz]
    rw[et];have e:=bW λh=>by omega
    obtain⟨hk,hn,fN,om,pB⟩:=hh;refine wk ?_;refine H.nA ?_;clear H;intro w tg H;refine wk ?_;refine H.nA ?_;clear H;intro w iX H;rw[e];refine H.wg ?_;clear H;intro _ w H
    first
     | (refine(rT H.data 6 (-2)).use ?_
        rintro q w⟨rfl,K⟩
        (replace H:=Rel.call H K)
        simp only[aA]at H
        refine H.wg ?_;clear H;intro w H
        exact⟨V5,⟨none,0,0⟩,cU,H.sx,rfl,aB.nil _ _⟩)
     | ((refine dV 3 [] [0,1,2] H ?_;clear H;intro w H)
        (first|(refine H.Bm ?_;clear H;intros;rename_i w H;constructor)|refine wk ?_)
        exact⟨V5,⟨none,0,0⟩,cU,H.sx,rfl,aB.nil _ _⟩)
   cases hto:gE O with
   | none =>
    have et:br none O.length=⟨zeroV,[],21, -1⟩:=by unfold br;rw[if_neg iz]
    rw[et];have e:=bW λ_ h=>by rw[hto]at h;cases h
    obtain⟨hk,hn,fN,om,pB⟩:=hh;refine wk ?_;refine H.nA ?_;clear H;intro w tg H;refine wk ?_;refine H.nA ?_;clear H;intro w iX H;rw[e];refine H.wg ?_;clear H;intro _ w H
    first
     | (refine(rT H.data 6 (-2)).use ?_
        rintro q w⟨rfl,K⟩
        (replace H:=Rel.call H K)
        simp only[aA]at H
        refine H.wg ?_;clear H;intro w H
        exact⟨V5,⟨none,0,0⟩,cU,H.sx,rfl,aB.nil _ _⟩)
     | ((refine dV 3 [] [0,1,2] H ?_;clear H;intro w H)
        (first|(refine H.Bm ?_;clear H;intros;rename_i w H;constructor)|refine wk ?_)
        exact⟨V5,⟨none,0,0⟩,cU,H.sx,rfl,aB.nil _ _⟩)
   | some y =>
    obtain⟨u,ur⟩:=y;have et:br (some (u,ur)) O.length=⟨u,ur,0,0⟩:=by unfold br;rw[if_neg iz]
    rw[hto,et]at fF fw;rw[et];dsimp only at fF fw |-;obtain⟨uB,uF,_⟩:=MF (show O.length<=1000 by omega) hto;have CZ:=fF;obtain⟨hk,hn,fN,om,pB⟩:=hh;refine wk ?_;refine H.nA ?_;clear H;intro w tg H;refine wk ?_;refine H.nA ?_;clear H;intro w iX H;refine H.wg ?_;clear H;intro _ w H;refine(qv H.data fw (hs.up cU)).use ?_;rintro q w⟨rfl,K⟩;(replace H:=Rel.call H K);simp only[aA]at H;by_cases hc1:ur=b;rotate_left
    ·rw[decide_eq_false hc1];have e:=bW λ_ h=>hc1 (by rw[hto]at h;cases h;rfl);rw[e];refine wk ?_
     first
      | (refine(rT H.data 6 (-2)).use ?_
         rintro q w⟨rfl,K⟩
         (replace H:=Rel.call H K)
         simp only[aA]at H
         refine H.wg ?_;clear H;intro w H
         exact⟨V5,⟨none,0,0⟩,cU,H.sx,rfl,aB.nil _ _⟩)
      | ((refine dV 3 [] [0,1,2] H ?_;clear H;intro w H)
         (first|(refine H.Bm ?_;clear H;intros;rename_i w H;constructor)|refine wk ?_)
         exact⟨V5,⟨none,0,0⟩,cU,H.sx,rfl,aB.nil _ _⟩)
    rw[decide_eq_true hc1];refine wk ?_;refine(Ii H.data (hv0.up cU) CZ hB uB bP uF).use ?_;rintro q w⟨V6,cc,cg,K,rfl,hcc⟩;(replace H:=Rel.call H K);simp only[aA]at H;have gJ:=cU.trans cg;refine wk ?_;refine H.nA ?_;clear H;intro w th H;by_cases hc2:cc=0;rotate_left
    ·have e:=bW λ_ h=>hc2 (hcc.2 (by rw[hto]at h;cases h;rfl));rw[e];refine H.wg ?_;clear H;intro w H
     first
      | (refine(rT H.data 6 (-2)).use ?_
         rintro q w⟨rfl,K⟩
         (replace H:=Rel.call H K)
         simp only[aA]at H
         refine H.wg ?_;clear H;intro w H
         exact⟨V6,⟨none,0,0⟩,gJ,H.sx,rfl,aB.nil _ _⟩)
      | ((refine dV 3 [] [0,1,2] H ?_;clear H;intro w H)
         (first|(refine H.Bm ?_;clear H;intros;rename_i w H;constructor)|refine wk ?_)
         exact⟨V6,⟨none,0,0⟩,gJ,H.sx,rfl,aB.nil _ _⟩)
    have e:ct v (some T).isSome (lq v b)=(O,0,0):=by
     rw[Va hsh hr (by rw[<-hO];omega) (by rw[<-hO,hto,hc1,hcc.1 hc2]),<-hO];unfold ct;rw[if_neg (λh=>h bP)];rfl
    rw[e];refine H.wg ?_;clear H;intro _ w H;exact⟨V6,ro,gJ,H.sx,rfl,tA.up (aQ.trans cg)⟩
end
theorem agZ(l:ad):byteCells ⟨l.toArray⟩=l.flatMap aE:=by
 rw[fc];rfl
theorem Xy{P:Program}{T:List TD}(hT:bK P T){t tx ty e:TypeId}{d de:TD}(hd:T[t]?=some d)(hu:d.under=.slice e)(hde:T[e]?=some de){z:ao}(hz:de.zero=some z)(hzs:z.cells.size=1)(hsz:de.size=1)(hby:de.bytes=1)(hs:P.underlying tx=some .string)
  {w:ae} {s:Sl} {xs:aD} {l:ad} (hr:Row w s e 1 xs) (hb:s.len+l.length<=1099511627776) (hl:0<l.length\/0<s.len)
  {k:ao->ae->Prop} (hk:∀s' w',Row w' s' e 1 (xs++l.flatMap aE)->s'.len=s.len+l.length->Bu w s w' s'->k s'.v w'):bo P (Builtin.append_ #[t,tx] ty #[s.v,str l]) w k:=by
 have tI:=hT t d hd;have sd:=hT e de hde;obtain⟨i,hi,lF,oe,hi3⟩:=sd.info;have ht:P.underlying t=some (.slice e):=by
  obtain⟨d0,q1,q2⟩:=tI.under;rw[hu]at q2;cases d0<;>first|(simp_all[c8];done)|(simp only[c8]at q2;split at q2<;>cases q2)
 have mC:i.size=1:=lF.trans hsz;have vf:i.bytes=1:=oe.trans hby;have sw:(l.flatMap aE).length=l.length:=by rw[fc,bu]
 have CT:Src P i.size tx (str l) l.length (l.flatMap aE) w:=by
  rw[mC,<-agZ];exact Src.ofString w hs ⟨l.toArray⟩
 have mo:∀old,grownCap w (s.len+l.length) old e<=maxLen:=λold=>grownCap_le_maxLen w _ old e (by simp only[maxLen];omega);have kT:∀old,s.len+l.length<=grownCap w (s.len+l.length) old e:=λold=>grownCap_ge w _ old e;have hrl:=hr.len;rw[uj]at hrl;have hlen:(xs++l.flatMap aE).length=(s.len+l.length)*1:=by rw[aq,hrl,sw,uj]
 have fresh:∀old,k (.slice (some ⟨w.heap.size,0,none⟩) (s.len+l.length) (grownCap w (s.len+l.length) old e))
   (w.drew.alloc (.cells ((xs++l.flatMap aE).toArray++Builtin.zeroCells z.cells (grownCap w (s.len+l.length) old e-(s.len+l.length))) e)):=by
  intro old
  refine hk ⟨some ⟨w.heap.size,0,none⟩,s.len+l.length,grownCap w (s.len+l.length) old e⟩ _ ⟨hlen,.inr ⟨w.heap.size,_,rfl,⟨(0,0),heap_alloc_new w.drew _,.zero _⟩,kT old,mo old,?_,?_⟩⟩ rfl
   ⟨rfl,rfl,rfl,ai,λc hc _=>by first|exact heap_alloc_old w.drew _ c hc|exact heap_alloc_old w.drew _ hc,.inr (.inr (aK _))⟩
  ·have:=kT old;simp only[Array.size_append,vT,size_zeroCells,hzs];rw[hlen];omega
  ·simp only[Array.toList_append];rw[<-hlen];exact pX
 rcases hr.at_ with⟨h1',h2,h3⟩|⟨b,cur,h1',h2,h3,h4,h5,h6⟩
 ·have pC:xs=[]:=bL (by rw[hrl,h2]);have mB:s.v=.slice none 0 0:=by show Value.slice s.a s.len s.cap=_;rw[h1',h2,h3]
  have dS:=run_append_grow_src (P:=P) (w:=w) t tx ty e i z ht hi (hi3.trans hz) none 0 0 [] (run_firstCells_none w.drew i.size 0 0 0) (str l) l.length (l.flatMap aE) CT aa aa (growslice_fits aa (by rw[vf];omega));have hf:=fresh 0;simp only[h2,dU,pC]at hf dS;rw[mB];exact .of dS hf
 ·have mB:s.v=.slice (some ⟨b,0,none⟩) s.len s.cap:=by show Value.slice s.a s.len s.cap=_;rw[h1']
  rw[mB];by_cases hroom:s.len+l.length<=s.cap
  ·obtain⟨fz,h2,hok⟩:=h2;have hfit:s.len+(l.flatMap aE).length<=cur.size:=by rw[sw];omega
   have hst:=GR P b s.len e fz (l.flatMap aE) 0 cur w h2 hok (by simpa using hfit) CT.one;simp only[Nat.add_zero]at hst
   have dS:(Builtin.append_ #[t,tx] ty #[.slice (some ⟨b,0,none⟩) s.len s.cap,str l]).run P w =
     .ok (.slice (some ⟨b,0,none⟩) (s.len+l.length) s.cap) (w.setRow b (cur.toList.take s.len++l.flatMap aE++cur.toList.drop (s.len+(l.flatMap aE).length)).toArray):=by
    have q1:=CT.len;have q2:=CT.cells;rw[mC]at q2;simp[Builtin.append_,run_underlying ht,run_underlying hs,sizeOf,typeInfo,hi,mC,q1,hroom,q2,Addr.add_lit,hst]
   refine .of dS (hk ⟨some ⟨b,0,none⟩,s.len+l.length,s.cap⟩ _ ⟨hlen,.inr ⟨b,_,rfl,⟨fz,setRow_heap w b cur _ e _ h2,?_⟩,hroom,h4,?_,?_⟩⟩ rfl ⟨rfl,rfl,rfl,ai,λc _ hc=>setRow_other w b c _ ?_,.inr (.inl ⟨by rw[h1'];simp,by rw[h1']⟩)⟩)
   ·intro j hj;refine hok j ?_;simp only[vT,aq,bb,bd,Array.length_toList]at hj;omega
   ·simp only[vT,aq,bb,bd,Array.length_toList];omega
   ·rw[uj]at h6;rw[h6,<-hlen];exact pX
   ·rcases hc with hc|hc
    ·rw[h1']at hc;cases hc
    ·rw[h1']at hc;exact hc
  ·have holds:∀j v,xs[j]?=some v->w.cell? ((⟨b,0,none⟩:Addr).add j)=some v:=λj v hj=>by
    have:=hr.cells.2 j v hj;rw[h1']at this;rw[addr_add];exact this
   have dS:=run_append_grow_src (P:=P) (w:=w) t tx ty e i z ht hi (hi3.trans hz) (some ⟨b,0,none⟩) s.len s.cap xs (by
    rw[mC];exact run_firstCells_some w.drew 1 s.len ⟨b,0,none⟩ s.len s.cap xs aa (by simpa using holds)) (str l) l.length (l.flatMap aE) CT aa aa (growslice_fits aa (by rw[vf];omega))
   exact .of dS (fresh s.cap)
section
variable{w0 V0 V w:ae}{own:bU}
theorem Rel.En{xs l:ad}(H:Rel w0 V0 own V w)(hi:own[i]?=some (.row s 5 1 (xs.flatMap aE)))(hl:0<l.length\/0<xs.length)(hb:xs.length+l.length<=1099511627776){ty:TypeId}{k:ao->ae->Prop}
  (hk:∀s' w',Rel w0 V0 (own.set i (.row s' 5 1 ((xs++l).flatMap aE))) V w'->k s'.v w'):bo Tryz.prog (Builtin.append_ #[22,9] ty #[s.v,str l]) w k:=by
 have hsl:=H.gn hi (λ_=>rfl) ag;refine Xy ah rfl rfl rfl rfl rfl rfl rfl Tryz.underlying9 (H.rowAt hi) (by rw[hsl];exact hb) (by rw[hsl];exact hl) λs' w' hr _ hg=>hk s' w' ?_;have hra:=(H.rowAt hi).at_;rw[bT];refine H.put hi hg.os hg.tape hg.output hg.size (λc hc hne=>hg.block c hc ?_) hr λb hb=>?_
 ·cases hs:s.a with
  | none=>exact .inl rfl
  | some p=>refine .inr λe=>hne ?_;rw[e];simp[aN.at_,hs,bD]
 ·simp only[aN.at_,Option.map_eq_some_iff]at hb |-;obtain⟨p,hp,rfl⟩:=hb;rcases hg.own with h|⟨h,h'⟩|h
  ·rw[hp]at h;cases h
  ·cases hs:s.a with
   | none=>exact absurd hs h
   | some q=>rw[hp,hs]at h';exact .inl ⟨q,rfl,h'.symm⟩
  ·rw[hp]at h;exact .inr h
end
abbrev Sh(h:dt):ao×ao:=(iv h.1,h.2.v)
structure mU(es:Array MapEntry)(hs:List dt):Prop where
 eq:es.toList.map (λe=>(e.key,e.val))=hs.map Sh
abbrev lL(hs:List dt)(i:Int):Option dt:=hs.find? λh=>decide (h.1=i)
theorem Su(i:Int):∀(es:List MapEntry) (hs:List dt) (j:Nat),es.map (λe=>(e.key,e.val))=hs.map Sh->∃a,Instr.findNow (.int .i64) (iv i) es j=some a/\a.map Prod.snd=(lL hs i).map λh=>h.2.v
 | [],hs,j,h=>by
  have:hs=[]:=by
   have:=congrArg List.length h;exact bL (by simpa using this.symm)
  subst this;exact⟨none,rfl,rfl⟩
 | e::es,[],j,h=>by simp at h
 | e::es,x::hs,j,h=>by
  simp only[List.map_cons,List.cons.injEq,Prod.mk.injEq]at h;obtain⟨⟨hk,hv⟩,ht⟩:=h;by_cases hx:x.1=i
  ·refine⟨some (j,e.val),?_,?_⟩
   ·simp[Instr.findNow,hk,Instr.sameNow,hx]
   ·simp[lL,DF,hx,hv]
  ·obtain⟨a,h1,h2⟩:=Su i es hs (j+1) ht;refine⟨a,?_,?_⟩
   ·have:(i == x.1)=false:=by simpa using λe=>hx e.symm
    simp[Instr.findNow,hk,Instr.sameNow,this,h1]
   ·rw[h2];simp[lL,DF,hx]
theorem PB(h:mU es hs)(i:Int)(w:ae):∃a,(Instr.findKey 3 (iv i) es.toList).run Tryz.prog w=.ok a w/\a.map Prod.snd=(lL hs i).map λh=>h.2.v:=by
 obtain⟨a,h1,h2⟩:=Su i es.toList hs 0 h.eq;exact⟨a,MapKept.run_findKey Tryz.underlying3 h1,h2⟩
theorem Ib(em:Bool)(n:Nat)(i:Int)(w:ae):(Instr.checkKey em (n+1) 3 (iv i)).run Tryz.prog w=.ok () w:=by
 rw[Instr.checkKey];simp[run_underlying Tryz.underlying3]
theorem mU.nil:mU #[] []:=⟨rfl⟩
theorem mU.push{es:Array MapEntry}{hs:List dt}(h:mU es hs)(x:dt)(c:Nat):mU (es.push { key:=iv x.1,val:=x.2.v,born:=c }) (hs++[x]):=by
 refine⟨?_⟩;rw[Array.toList_push,eZ,h.eq,eZ];rfl
section
variable{w0 V0 V w:ae}{own:bU}
theorem Rel.acN{t:TypeId}(H:Rel w0 V0 own V w){k:ao->ae->Prop}(hk:∀w' b,Rel w0 V0 (.obj b (.map #[] 0)::own) V w'->k (.map (some b)) w'):bo Tryz.prog (Instr.makeMap t none) w k :=
 .of (run_makeMap t w) (hk _ _ (H.newObj _))
theorem Rel.gm{b:Nat}{x:dt}(H:Rel w0 V0 (.obj b (.map es clock)::own) V w)(h:mU es hs)(hn:lL hs x.1=none){k:ao->ae->Prop}
  (hk:∀w' B8 c',mU B8 (hs++[x])->Rel w0 V0 (.obj b (.map B8 c')::own) V w'->k undef w'):bo Tryz.prog (do Instr.mapUpdate 202 (.map (some b)) (iv x.1) x.2.v;pure undef) w k:=by
 have hb:w.heap[b]?=some (.map es clock):=H.laid (.obj b (.map es clock)) ai;refine .of ?_ (hk _ _ (clock+1) (h.push x clock) H.setObj);obtain⟨a,hf,ha⟩:=PB h x.1 w;rw[hn]at ha;obtain rfl:a=none:=by simpa using ha
 simp[Instr.mapUpdate,run_underlying Tryz.underlying202,getObj,Go.setObj,Sem.run,hb,Ib,hf]
theorem Rel.acj{b:Nat}{j:Int}(H:Rel w0 V0 own V w)(hi:own[i]?=some (.obj b (.map es clock)))(h:mU es hs){k:ao->ae->Prop}
  (hk:k (.tuple #[((lL hs j).map λx=>x.2.v).getD (.slice none 0 0),.bool (lL hs j).isSome]) w):bo Tryz.prog (Instr.lookup 202 (.map (some b)) (iv j) true) w k:=by
 have hb:=H.Sz hi;refine .of ?_ hk;obtain⟨a,hf,ha⟩:=PB h j w;have hz:(zeroValue 22).run Tryz.prog w=.ok (.slice none 0 0) w:=(ah _ _ (by rfl:sU[22]?=some _)).DP rfl w;cases hl:lL hs j with
 | none =>
  rw[hl]at ha;obtain rfl:a=none:=by simpa using ha
  simp[Instr.lookup,run_underlying Tryz.underlying202,getObj,Sem.run,hb,Ib,hf,hz]
 | some x =>
  rw[hl]at ha;obtain⟨y,rfl,hy⟩:=Option.map_eq_some_iff.1 ha;simp[Instr.lookup,run_underlying Tryz.underlying202,getObj,Sem.run,hb,Ib,hf,hy]
end
theorem RW(hp:Pw ib V hs Z)(i:Nat):(iC Z i=none/\lL hs (i:Int)=none)\/∃h b,iC Z i=some b/\lL hs (i:Int)=some h/\ay V h.2 b/\∃z∈Z,z.2=b:=by
 induction hs generalizing Z with
 | nil =>
  cases Z with
  | nil=>exact .inl ⟨rfl,rfl⟩
  | cons z Z=>exact absurd hp.len ai
 | cons h hs ih =>
  cases Z with
  | nil=>exact absurd hp.len ai
  | cons z Z =>
   obtain⟨h1,h2⟩:=hp.all 0 h z rfl rfl;have ht:Pw ib V hs Z:=⟨by simpa using hp.len,λk a b q1 q2=>hp.all (k+1) a b q1 q2⟩
   by_cases hz:z.1=i
   ·refine .inr ⟨h,z.2,?_,?_,h2,z,ai,rfl⟩
    ·simp[iC,DF,hz]
    ·have:h.1=(i:Int):=by rw[h1,hz]
     simp[lL,DF,this]
   ·have e1:iC (z::Z) i=iC Z i:=by simp[iC,DF,hz]
    have e2:lL (h::hs) (i:Int)=lL hs (i:Int):=by
     have:¬h.1=(i:Int):=by rw[h1];omega
     simp[lL,DF,this]
    rw[e1,e2];rcases ih ht with q|⟨h',b,q1,q2,q3,z',q4,q5⟩
    ·exact .inl q
    ·exact .inr ⟨h',b,q1,q2,q3,z',by simp[q4],q5⟩
theorem acg(hp:Pw ib V hs Z)(ha:Z.Pairwise λx y=>x.1<y.1){k:Nat}(hk:k<hs.length):lL (hs.take k) hs[k].1=none:=by
 have hl:=hp.len;rw[lL,List.find?_eq_none];intro x hx he;simp only[decide_eq_true_eq]at he;obtain⟨i,hi,rfl⟩:=List.mem_iff_getElem.1 hx;rw[bb]at hi;rw[List.getElem_take]at he;have h1:=(hp.all i hs[i] Z[i] (a8 aa) (a8 aa)).1;have h2:=(hp.all k hs[k] Z[k] (a8 hk) (a8 aa)).1;have:=List.pairwise_iff_getElem.1 ha i k aa aa aa;omega
abbrev te(wb mb:Nat)(r:Sl)(es:Array MapEntry)(jv:Nat)(s:nV):bU:=[.ax wb [r.v,iv ((s.cnt:Nat):Int),str s.last,.map (some mb)] 204,.row r 5 1 (s.out.flatMap aE),.obj mb (.map es jv)]
section
variable{w0 V0 V w:ae}{own:bU}{wb mb jv:Nat}{r:Sl}{es:Array MapEntry}{hs:List dt}{Z:List fL}{s:nV}{t:Tok}
theorem oM(H:Rel w0 V0 (te wb mb r es jv s++own) V w)(hm:mU es hs)(hp:Pw ib V hs Z)(hb:∀x∈Z,x.2.length<=100000000)(hl:s.out.length+t.length<=500000000000)(hc:s.cnt<=1000000)(ht:t≠[]\/s.out≠[]):aC 164 [.pointer (some ⟨wb,0,none⟩),str t] w λq w'=>q=.tuple #[]/\∃r',Rel w0 V0 (te wb mb r' es jv (gN Z s t)++own) V w':=by
 simp only[te,aL,aA]at H;refine qo ah Tryz.func164 rfl aj 81 rfl ai [0,1,4,5,18,29,40] ?_;refine aP.dH ah ?_;refine wk ?_;refine dV 0 [] [0,1,2,3,4,5,6,7,8,9,10,11,12,13] H ?_;clear H;intro w H;refine wk ?_;refine Rel.acj H (i:=2) rfl hm ?_;refine wk ?_;obtain⟨bl,hbl⟩:∃bl,bl=match iC Z s.cnt with
   | some b=>b
   | none=>if t=[]then[10]else sZ (af s.last):=⟨_,rfl⟩
 have aaD:bl.length<=100000000/\(s.out++bl≠[]\/t≠[]):=by
  refine⟨?_,ht.symm.imp_left λh=>by simp[h]⟩;rcases RW hp s.cnt with⟨q1,_⟩|⟨h,b,q1,_,_,z,q4,q5⟩
  ·rw[hbl,q1];dsimp only;split
   ·simp
   ·unfold sZ;split<;>simp
  ·rw[hbl,q1];dsimp only;rw[<-q5];exact hb z q4
 refine aP.oH ah (λ_:Unit=>[(0,.pointer (some ⟨wb,0,none⟩)),(1,str t)]) (λ_ w'=>∃r',Rel w0 V0 (.ax wb [r'.v,iv ((s.cnt:Nat):Int),str s.last,.map (some mb)] 204::.row r' 5 1 ((s.out++bl).flatMap aE)::.obj mb (.map es jv)::own) V w') ?_ ?_
 ·rcases RW hp s.cnt with⟨q1,q2⟩|⟨h,b,q1,q2,q3,z,q4,q5⟩
  ·rw[q2];rw[q1]at hbl;dsimp only at hbl;by_cases h0:t=[]
   ·obtain rfl:bl=[10]:=by rw[hbl,if_pos h0]
    subst h0;refine wk ?_;refine Rel.En H (i:=1) (l:=[10]) rfl (.inl ag) (by simp only[av,aI];omega) ?_;clear H;intro r' w H;refine H.wg ?_;clear H;intro w H;exact⟨(),sB,r',H⟩
   ·rw[if_neg h0]at hbl;refine wk ?_;refine zI (decide_eq_false h0) ?_;by_cases h1:s.last=[44]
    ·obtain rfl:bl=[32]:=by rw[hbl,h1];rfl
     rw[h1]at H |-;refine wk ?_;refine Rel.En H (i:=1) (l:=[32]) rfl (.inl ag) (by simp only[av,aI];omega) ?_;clear H;intro r' w H;refine H.wg ?_;clear H;intro w H;exact⟨(),sB,r',H⟩
    ·by_cases h2:s.last=[58]
     ·obtain rfl:bl=[32]:=by rw[hbl,h2];rfl
      rw[h2]at H |-;refine wk ?_;refine Rel.En H (i:=1) (l:=[32]) rfl (.inl ag) (by simp only[av,aI];omega) ?_;clear H;intro r' w H;refine H.wg ?_;clear H;intro w H;exact⟨(),sB,r',H⟩
     ·obtain rfl:bl=[]:=by
       rw[hbl,show af s.last=false by simp[af,h1,h2]];rfl
      refine wk ?_;refine zI (decide_eq_false h1) ?_;refine wk ?_;refine zI (decide_eq_false h2) ?_;refine wk ?_;exact⟨(),sB,r,by rw[cm];exact H⟩
  ·rw[q2];rw[q1]at hbl;dsimp only at hbl;subst hbl;refine wk ?_;refine Rel.eJ H (i:=1) rfl q3 aa ?_;clear H;intro r' w H;refine H.wg ?_;clear H;intro w H;exact⟨(),sB,r',H⟩
 clear H;rintro _ w⟨r',H⟩;refine aP.go ah ?_;refine wk ?_;refine Rel.En H (i:=1) (l:=t) rfl ?_ (by rw[aq];omega) ?_
 ·rcases aaD.2 with h|h
  ·exact .inr (jF.2 h)
  ·exact .inl (jF.2 h)
 clear H;intro r' w H;refine H.wg ?_;clear H;intro _ _ w H;refine⟨r',?_⟩;have e:(gN Z s t).out=s.out++bl++t:=by rw[hbl];rfl
 show Rel w0 V0 (.ax wb [r'.v,iv ((s.cnt+1:Nat):Int),str t,.map (some mb)] 204::.row r' 5 1 ((gN Z s t).out.flatMap aE)::.obj mb (.map es jv)::own) V w;rw[e];exact H
end
section
variable{V W:ae}
theorem LR(b:ad):(jH b).length<=4*b.length:=by
 induction b with
 | nil=>simp[jH]
 | cons c b ih =>
  have e:jH (c::b)=k9 c++jH b:=by simp[jH]
  have:(k9 c).length<=4:=by unfold k9;split<;>(try split)<;>simp
  rw[e,aq,av];omega
theorem GB{b:ad}{k:Nat}(hk:k<b.length):jH (b.take (k+1))=jH (b.take k)++k9 b[k]:=by
 rw[bZ hk,jH,bT,List.flatMap_singleton];rfl
theorem Xm:∀c:Nat,c<256->bN .and .u8 (c:Int) 15=((c%16:Nat):Int):=by decide +kernel
theorem QI(h:n<16):vj[n]?=some (kR n):=by
 have key:∀n:Fin 16,vj[n.val]?=some (kR n.val):=ag;exact key ⟨n,h⟩
theorem aeT(hV:Sub V W){s:Sl}{b:ad}(hs:ay V s b)(hl:b.length<=100000000):aC 252 [s.v] W λq w'=>q=str (pY b)/\Rel W V [] V w':=by
 have H:=Rel.start hV;have hlen:=hs.len;refine eV Tryz.func252 45 [0,2,3,5,7,8,9,10,17,28] ?_;refine wk ?_;refine H.nA ?_;clear H;intro w b0 H;replace H:=H.bA (c':=([34]:ad).flatMap aE) rfl;replace H:=H.fA (n:=1) (e:=5) (sz:=1) rfl (by simp[maxLen]);refine wk ?_;refine aY (S:=Nat×Sl) ah [0,2,7,8] (λk=>[(9,iv k.1),(3,k.2.v)]) (λk w'=>k.1<=b.length/\Rel W V [.row k.2 5 1 ((34::jH (b.take k.1)).flatMap aE)] V w') (λk _=>b.length-k.1) (0,⟨some ⟨b0,0,none⟩,1,1⟩) ?_;conv=>whnf
 refine⟨sB,⟨aa,H⟩,?_⟩;clear H;rintro⟨k,r⟩w⟨hk,H⟩;dsimp only at hk H |-;have eW:=LR (b.take k);rw[bb]at eW;by_cases hlt:k<b.length;rotate_left
 ·rw[bR aa]at H;refine wk ?_;refine H.nA ?_;clear H;intro w b1 H;replace H:=H.bA (c':=([34]:ad).flatMap aE) rfl;replace H:=H.fA (n:=1) (e:=5) (sz:=1) rfl (by simp[maxLen]);refine wk ?_;refine Rel.dD (s:=r) (x:=⟨some ⟨b1,0,none⟩,1,1⟩) (xs:=34::jH b) (ys:=[34]) H (i:=0) rfl (by simp only[av,aI];have:=LR b;omega) ?_;clear H;intro r1 w H;simp only[bC]at H;obtain⟨V2,hV2,H,hr⟩:=H.aT (λ_=>rfl) ag;refine wk ?_;refine⟨pY b,hr.len,fc _▸(hr.up H.data).cells,?_⟩;refine wk ?_;exact Rel.back H.sx
 obtain⟨p0,c0⟩:=hs.aX (g:=bv) (λ_=>rfl) hlt;obtain⟨c,hc⟩:∃c,c=b[k]:=⟨_,rfl⟩
 rw[<-hc]at c0;have CA:=c.toNat_lt;by_cases h1:c=34
 ·subst h1;refine wk ?_;refine H.nA ?_;clear H;intro w b1 H;replace H:=H.bA (c':=([92,34]:ad).flatMap aE) rfl;replace H:=H.fA (n:=2) (e:=5) (sz:=1) rfl (by simp[maxLen]);refine Rel.dD (s:=r) (x:=⟨some ⟨b1,0,none⟩,2,2⟩) (xs:=34::jH (b.take k)) (ys:=[92,34]) H (i:=0) rfl (by simp only[av,aI];omega) ?_;clear H;intro r1 w H;simp only[bC]at H;refine wk ?_;refine⟨sB,(k+1,r1),sB,⟨by dsimp only;omega,?_⟩,by dsimp only;omega⟩;dsimp only;rw[GB hlt,(show k9 b[k]=[92,34]by rw[<-hc];rfl)];exact H
 by_cases h2:c=92
 ·subst h2;refine wk ?_;refine H.nA ?_;clear H;intro w b1 H;replace H:=H.bA (c':=([92,92]:ad).flatMap aE) rfl;replace H:=H.fA (n:=2) (e:=5) (sz:=1) rfl (by simp[maxLen]);refine Rel.dD (s:=r) (x:=⟨some ⟨b1,0,none⟩,2,2⟩) (xs:=34::jH (b.take k)) (ys:=[92,92]) H (i:=0) rfl (by simp only[av,aI];omega) ?_;clear H;intro r1 w H;simp only[bC]at H;refine wk ?_;refine⟨sB,(k+1,r1),sB,⟨by dsimp only;omega,?_⟩,by dsimp only;omega⟩;dsimp only;rw[GB hlt,(show k9 b[k]=[92,92]by rw[<-hc];rfl)];exact H
 have h1':c.toNat≠34:=λe=>h1 (eF.1 e);have h2':c.toNat≠92:=λe=>h2 (eF.1 e);refine wk ?_;refine(Mx H.data c).use ?_;rintro v w⟨rfl,K⟩;(replace H:=Rel.call H K);simp only[aA]at H;cases hsp:oJ c with
 | false =>
  refine wk ?_;refine H.nA ?_;clear H;intro w b1 H;replace H:=H.bA (c':=([c]:ad).flatMap aE) rfl;replace H:=H.fA (n:=1) (e:=5) (sz:=1) rfl (by simp[maxLen]);refine Rel.dD (s:=r) (x:=⟨some ⟨b1,0,none⟩,1,1⟩) (xs:=34::jH (b.take k)) (ys:=[c]) H (i:=0) rfl (by simp only[av,aI];omega) ?_;clear H;intro r1 w H;simp only[bC]at H;refine wk ?_;refine⟨sB,(k+1,r1),sB,⟨by dsimp only;omega,?_⟩,by dsimp only;omega⟩;dsimp only;rw[GB hlt,(show k9 b[k]=[c]by rw[<-hc];exact LP (λh=>h.elim h1 h2) hsp)];exact H
 | true =>
  have qt:(2:Int)^min (Int.toNat 4) IntKind.u8.bits=16:=ag;have g0:vj[((c.toNat:Int)/2^min (Int.toNat 4) IntKind.u8.bits).toNat]?=some (kR (c.toNat/16)):=by
   rw[show((c.toNat:Int)/2^min (Int.toNat 4) IntKind.u8.bits).toNat=c.toNat/16 from rfl];exact QI aa
  have g1:vj[(((c.toNat%16:Nat):Int)).toNat]?=some (kR (c.toNat%16)):=by
   rw[e8];exact QI aa
  have ga:=Xm c.toNat CA;refine wk ?_;refine dV 9 [] [0,1,2,3,4,5,6,7,8,9] H ?_;clear H;intro w H;refine wk ?_;refine⟨by rw[qt];omega,_,g0,?_⟩;refine wk ?_;rw[ga];refine wk ?_;refine H.nA ?_;clear H;intro w b1 H;replace H:=H.bA (c':=([92,120,kR (c.toNat/16),kR (c.toNat%16)]:ad).flatMap aE) rfl;replace H:=H.fA (n:=4) (e:=5) (sz:=1) rfl (by simp[maxLen]);refine Rel.dD (s:=r) (x:=⟨some ⟨b1,0,none⟩,4,4⟩) (xs:=34::jH (b.take k)) (ys:=[92,120,kR (c.toNat/16),kR (c.toNat%16)]) H (i:=0) rfl (by simp only[av,aI];omega) ?_;clear H;intro r1 w H;simp only[bC]at H;refine wk ?_;refine⟨sB,(k+1,r1),sB,⟨by dsimp only;omega,?_⟩,by dsimp only;omega⟩;dsimp only;rw[GB hlt,(show k9 b[k]=[92,120,kR (c.toNat/16),kR (c.toNat%16)]by rw[<-hc];exact LQ hsp)];exact H
end
end Go.Proofs.YtmoiobegbpkkbaaGreatDoor
