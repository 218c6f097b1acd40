import Derived.Test.YtmoiobegbpkkbaaGreatDoorTAJ
import Derived.Test.YtmoiobegbpkkbaaGreatDoorTAK
import Derived.Test.YtmoiobegbpkkbaaGreatDoorCards
import Derived.Test.YtmoiobegbpkkbaaGreatDoorTie
import Derived.Deep.DeepHandedRow
import Derived.Lib.LaidU8
import Derived.Lib.LaidU8T
import Derived.Shelf.Vars
open Go.Lib.laidMet renaming reads->Jm
open Go.Value renaming bool->ic
open List renaming all_eq_true->bc,mem_cons->bP,append_nil->aZ,take_of_length_le->bJ,append_assoc->bj,length_append->ak,length_take->bg,length_singleton->bT,getElem_mem->bS,any_eq_true->wF,take_succ_eq_append_getElem->bK,map_cons->fO,sum_cons->qy,set_cons_zero->bH,map_append->dU,map_nil->lk,sum_append->Je,sum_nil->OH
open Option.some renaming inj->dT
namespace Go.Proofs.YtmoiobegbpkkbaaGreatDoor
open Go Go.RowKit
set_option maxRecDepth 100000
set_option maxHeartbeats 8000000
variable{V:ad}
variable{W:ad}
theorem XX(l:au)(k:Nat):∃rs n,cL (l++[k])=rs++[(k,n)]:=by
 rw[qF];rcases FL (cL l)with h|⟨rs,⟨j,n⟩,h⟩
 ·rw[h];exact⟨[],1,rfl⟩
 rw[h,wC];split
 ·rename_i e;rw[e];exact⟨rs,n+1,rfl⟩
 exact⟨rs++[(j,n)],1,ah⟩
theorem ali(e:Nat)(l:au)(k:Nat):fX e (l++[k])=(fX e l&&(k == 0)):=by unfold fX;rw[List.all_append,Bool.and_assoc];simp
theorem XW:∀ {rs:List eA} {p:Nat},sI p rs->∀r∈rs,r.1<3
 | [],_,_=>by simp
 | x::rs,p,h=>by
  obtain⟨h1,h2,h3,h4⟩:=h;intro r hr;rcases bP.1 hr with rfl|hr
  ·exact h1
  exact XW h4 r hr
theorem XY:∀ {rs:List eA},∀r∈rs,r.2<=ij rs
 | []=>by simp
 | x::rs=>by
  intro r hr;rw[show ij (x::rs)=x.2+ij rs from rfl];rcases bP.1 hr with rfl|hr
  ·omega
  have:=XY r hr;omega
theorem ajJ{ks:au}(hl:ks.length<=1000000)(hk3:∀k∈ks,k<3):∀x∈aX (cL ks),cY x.1/\cY x.2:=by
 intro x hx;obtain⟨⟨j,n⟩,hr,rfl⟩:=List.mem_map.1 hx;obtain⟨_,_,f3,f4,_⟩:=nJ ks;have h1:=XY _ hr;have h2:=XW (f3 hk3 3 (by intro e;have:=hk3 3 (List.mem_of_head? e);omega)) _ hr
 dsimp only at h1 h2 |-;constructor<;>constructor<;>omega
theorem ajI{l:List bV}(h:∀x∈l,cY x.1/\cY x.2)(q:Nat):((l.take q).flatMap gD).length<=20*q:=by
 have:=Hh (f:=gD) (m:=20) (l:=l.take q) (λx hx=>by obtain⟨i1,i2⟩:=h x (List.mem_of_mem_take hx);have:=dq i1.1 i1.2;have:=dq i2.1 i2.2;unfold gD;rw[ak];omega)
 rw[bg]at this;have:=Nat.mul_le_mul_right 20 (Nat.min_le_left q l.length);omega
theorem alv(hV:Sub V W){s:Sl}{ks:au}(hs:aA gI V s ks)(hl:ks.length<=1000000)(hk3:∀k∈ks,k<3){e:Nat}(he:e<5):aB 104 [iv (e:Int),s.v] W (Qx W V (lV e ks)):=by
 have H:=aG hV;have hlen:=hs.len;have Mx:(decide ((e:Int)=0))=fX e []:=by unfold fX;simp
 refine eV Tryz.func104 91 [0,1,4,5,6,7,8,9,15,39,62,72] ?_;refine wk ?_;replace H:=H.br 233 2;refine aP (S:=Nat×Sl) al [0,1,4,8,9,62,72] (λq=>[(7,iv q.1),(5,.bool (fX e (ks.take q.1))),(6,q.2.v)]) (λq w'=>q.1<=ks.length/\Rel W V [.row q.2 233 2 ((aX (cL (ks.take q.1))).flatMap eX)] V w') (λq _=>ks.length-q.1) (0,⟨none,0,0⟩) ?_;conv=>whnf
 refine⟨⟨rfl,ax (λz=>some (ic z)) Mx,rfl,trivial⟩,⟨aa,H⟩,?_⟩;clear H;rintro⟨p,r6⟩w⟨hp,H⟩;dsimp only at hp H |-;by_cases hlt:p<ks.length
 ·obtain⟨p0,c0⟩:=hs.aR (g:=λu:Nat=>iv (u:Int)) (λ_=>rfl) hlt;have hk:=hk3 ks[p] (bS hlt);have AB:=bK hlt;obtain⟨k,hke⟩:∃k,k=ks[p]:=⟨_,rfl⟩
  rw[<-hke]at c0 hk AB;have htr:=ali e (ks.take p) k;rw[<-AB]at htr;have hrl:=(nJ (ks.take p)).2.2.2.2;rw[bg]at hrl;cases ht:fX e (ks.take p)with
  | false =>
   rw[ht,Bool.false_and]at htr;have h5:false=fX e (ks.take (p+1)):=htr.symm;by_cases Ba:0<p;rotate_left
   ·have D0:p=0:=aa;have Lo:cL (ks.take (p+1))=[(k,1)]:=by rw[AB,D0];rfl
    rw[show aX (cL (ks.take p))=[]by rw[D0];rfl]at H;refine wk ?_;refine eJ (id:=7) al mixed [] [0,1,2,3,4,5,6,7,8,9,10,11,12,13] av ?_;intro w bG;replace H:=Rel.ext H bG.ext;refine wk ?_;refine bE.of (v:=.agg #[iv (k:Int),iv 1]) (w':=w) av ?_;refine H.wg ?_;intro _ w H;refine Rel.bF (f:=eX) (l:=[]) (x:=eY (k,1)) rfl (λ_=>rfl) (bc.1 rfl) H ah ah ?_;intro r6 w H;refine wk ?_;refine⟨sB,(p+1,r6),⟨rfl,ax (λz=>some (ic z)) h5,rfl,trivial⟩,⟨by dsimp only;omega,?_⟩,by dsimp only;omega⟩;dsimp only;rw[Lo];exact H
   obtain⟨_,c1⟩:=hs.aR (g:=λu:Nat=>iv (u:Int)) (λ_=>rfl) (show p-1<ks.length by omega);obtain⟨j,hj⟩:∃j,j=ks[p-1]:=⟨_,rfl⟩
   have HY:=hk3 ks[p-1] (bS _);have Lp:ks.take p=ks.take (p-1)++[j]:=by rw[hj,<-bK,show p-1+1=p by omega]
   obtain⟨rs,n,bI⟩:=XX (ks.take (p-1)) j;rw[<-Lp]at bI;rw[<-hj]at c1 HY;rw[show p-1=((p:Int)-1).toNat by omega]at c1;have D7:=H.dW (i:=0) rfl (λ_=>rfl) ai;have hps:=qF (ks.take p) k;rw[<-AB,bI,wC]at hps;rw[bI]at H D7 hrl;have qj:=(nJ (ks.take p)).2.2.2.1;rw[bI]at qj;simp only[ij,dU,fO,lk,Je,qy,OH,bg]at qj;have dK:(aX (rs++[(j,n)])).length=rs.length+1:=by simp[aX]
   rw[dK]at D7;simp only[ak,bT]at hrl;refine wk ?_;refine eJ (id:=7) al mixed [] [0,1,2,3,4,5,6,7,8,9,10,11,12,13] av ?_;intro w bG;replace H:=Rel.ext H bG.ext;by_cases hjk:k=j
   ·rw[ag hjk.symm]at hps;have hp6:Plain r6.a:=(H.cV (i:=0) rfl (λ_=>rfl) ai).cells.1 (by simp[aX]);refine wk ?_;refine eJ (id:=8) al mixed [] [0,1,2,3,4,5,6,7,8,9,10,11,12,13,14] av ?_;intro w bG;replace H:=Rel.ext H bG.ext;refine wk ?_;have S6:=H.cV (i:=0) rfl (λ_=>rfl) ai;obtain⟨u0,u1,u2⟩:=S6.fF (g:=λr:bV=>iv r.1) (g':=λr:bV=>iv r.2) (λ_=>rfl) (i:=rs.length) aa;have fL:(aX (rs++[(j,n)]))[rs.length]'(by omega)=eY (j,n):=by simp[aX]
    rw[fL]at u1 u2;dsimp only[eY]at u1 u2;rw[show rs.length=((r6.len:Int)-1).toNat by omega]at u2;refine⟨_,u2,?_⟩;refine wk ?_;refine Rel.vc (i:=0) H rfl (rs.length*2+1) aa rfl (by show bM r6.a+(((r6.len:Nat):Int)-1).toNat*2+1=_;omega) ?_;intro w H;simp only[bH]at H;rw[Ca,<-hps]at H;refine wk ?_;refine⟨sB,(p+1,r6),⟨rfl,ax (λz=>some (ic z)) h5,rfl,trivial⟩,⟨by dsimp only;omega,?_⟩,by dsimp only;omega⟩;dsimp only;exact H
   rw[ae (λh=>hjk h.symm)]at hps;refine wk ?_;refine bE.of (v:=.agg #[iv (k:Int),iv 1]) (w':=w) av ?_;refine H.wg ?_;intro _ w H;refine Rel.bF (f:=eX) (l:=aX (rs++[(j,n)])) (x:=eY (k,1)) rfl (λ_=>rfl) (bc.1 rfl) H (by show((aX (rs++[(j,n)])).length+1)*16<=_;omega) aa ?_;intro r6 w H;rw[show aX (rs++[(j,n)])++[eY (k,1)]=aX (rs++[(j,n),(k,1)])by simp[aX],<-hps]at H;refine wk ?_;refine⟨sB,(p+1,r6),⟨rfl,ax (λz=>some (ic z)) h5,rfl,trivial⟩,⟨by dsimp only;omega,?_⟩,by dsimp only;omega⟩;dsimp only;exact H
  | true =>
   rw[ht,Bool.true_and]at htr;have h5:decide ((k:Int)=0)=fX e (ks.take (p+1)):=by rw[htr];by_cases h:k=0<;>simp[h]
   by_cases Ba:0<p;rotate_left
   ·have D0:p=0:=aa;have Lo:cL (ks.take (p+1))=[(k,1)]:=by rw[AB,D0];rfl
    rw[show aX (cL (ks.take p))=[]by rw[D0];rfl]at H;refine wk ?_;refine eJ (id:=7) al mixed [] [0,1,2,3,4,5,6,7,8,9,10,11,12,13] av ?_;intro w bG;replace H:=Rel.ext H bG.ext;refine wk ?_;refine bE.of (v:=.agg #[iv (k:Int),iv 1]) (w':=w) av ?_;refine H.wg ?_;intro _ w H;refine Rel.bF (f:=eX) (l:=[]) (x:=eY (k,1)) rfl (λ_=>rfl) (bc.1 rfl) H ah ah ?_;intro r6 w H;refine wk ?_;refine⟨sB,(p+1,r6),⟨rfl,ax (λz=>some (ic z)) h5,rfl,trivial⟩,⟨by dsimp only;omega,?_⟩,by dsimp only;omega⟩;dsimp only;rw[Lo];exact H
   obtain⟨_,c1⟩:=hs.aR (g:=λu:Nat=>iv (u:Int)) (λ_=>rfl) (show p-1<ks.length by omega);obtain⟨j,hj⟩:∃j,j=ks[p-1]:=⟨_,rfl⟩
   have HY:=hk3 ks[p-1] (bS _);have Lp:ks.take p=ks.take (p-1)++[j]:=by rw[hj,<-bK,show p-1+1=p by omega]
   obtain⟨rs,n,bI⟩:=XX (ks.take (p-1)) j;rw[<-Lp]at bI;rw[<-hj]at c1 HY;rw[show p-1=((p:Int)-1).toNat by omega]at c1;have D7:=H.dW (i:=0) rfl (λ_=>rfl) ai;have hps:=qF (ks.take p) k;rw[<-AB,bI,wC]at hps;rw[bI]at H D7 hrl;have qj:=(nJ (ks.take p)).2.2.2.1;rw[bI]at qj;simp only[ij,dU,fO,lk,Je,qy,OH,bg]at qj;have dK:(aX (rs++[(j,n)])).length=rs.length+1:=by simp[aX]
   rw[dK]at D7;simp only[ak,bT]at hrl;refine wk ?_;refine eJ (id:=7) al mixed [] [0,1,2,3,4,5,6,7,8,9,10,11,12,13] av ?_;intro w bG;replace H:=Rel.ext H bG.ext;by_cases hjk:k=j
   ·rw[ag hjk.symm]at hps;have hp6:Plain r6.a:=(H.cV (i:=0) rfl (λ_=>rfl) ai).cells.1 (by simp[aX]);refine wk ?_;refine eJ (id:=8) al mixed [] [0,1,2,3,4,5,6,7,8,9,10,11,12,13,14] av ?_;intro w bG;replace H:=Rel.ext H bG.ext;refine wk ?_;have S6:=H.cV (i:=0) rfl (λ_=>rfl) ai;obtain⟨u0,u1,u2⟩:=S6.fF (g:=λr:bV=>iv r.1) (g':=λr:bV=>iv r.2) (λ_=>rfl) (i:=rs.length) aa;have fL:(aX (rs++[(j,n)]))[rs.length]'(by omega)=eY (j,n):=by simp[aX]
    rw[fL]at u1 u2;dsimp only[eY]at u1 u2;rw[show rs.length=((r6.len:Int)-1).toNat by omega]at u2;refine⟨_,u2,?_⟩;refine wk ?_;refine Rel.vc (i:=0) H rfl (rs.length*2+1) aa rfl (by show bM r6.a+(((r6.len:Nat):Int)-1).toNat*2+1=_;omega) ?_;intro w H;simp only[bH]at H;rw[Ca,<-hps]at H;refine wk ?_;refine⟨sB,(p+1,r6),⟨rfl,ax (λz=>some (ic z)) h5,rfl,trivial⟩,⟨by dsimp only;omega,?_⟩,by dsimp only;omega⟩;dsimp only;exact H
   rw[ae (λh=>hjk h.symm)]at hps;refine wk ?_;refine bE.of (v:=.agg #[iv (k:Int),iv 1]) (w':=w) av ?_;refine H.wg ?_;intro _ w H;refine Rel.bF (f:=eX) (l:=aX (rs++[(j,n)])) (x:=eY (k,1)) rfl (λ_=>rfl) (bc.1 rfl) H (by show((aX (rs++[(j,n)])).length+1)*16<=_;omega) aa ?_;intro r6 w H;rw[show aX (rs++[(j,n)])++[eY (k,1)]=aX (rs++[(j,n),(k,1)])by simp[aX],<-hps]at H;refine wk ?_;refine⟨sB,(p+1,r6),⟨rfl,ax (λz=>some (ic z)) h5,rfl,trivial⟩,⟨by dsimp only;omega,?_⟩,by dsimp only;omega⟩;dsimp only;exact H
 obtain rfl:p=ks.length:=aa;have hrl:=(nJ ks).2.2.2.2;have ana:=(nJ ks).2.2.2.1;have hr1:∀x∈aX (cL ks),cY x.1/\cY x.2:=ajJ hl hk3;rw[List.take_length]at H |-;unfold lV;have dK:(aX (cL ks)).length=(cL ks).length:=by simp[aX]
 cases ht:fX e ks with
 | true =>refine wk ?_;exact⟨V,⟨none,0,0⟩,aS _,H.sx,rfl,aA.nil _ _⟩
 | false =>
  obtain⟨V2,hV2,H,vX⟩:=Rel.aJ H;have h6l:=vX.len;have th:=dq (n:=(e:Int)) aa aa;have hpl:=dq (n:=((cL ks).length:Int)) aa aa;obtain⟨L,hL⟩:∃L,L=aX (cL ks):=⟨_,rfl⟩
  rw[<-hL]at vX dK hr1 h6l;have eb:nO e (cL ks)=(az (e:Int)++az ((cL ks).length:Int))++L.flatMap gD:=by unfold nO cm;rw[<-hL,dK,bj]
  have eb2:(if false=true then[]else nO e (cL ks))=nO e (cL ks):=rfl;rw[eb2,eb];refine wk ?_;refine(iR (n:=(e:Int)) H.data (by constructor<;>omega)).use ?_;rintro v w⟨r1,rfl,K⟩;replace H:=Rel.call H K;simp only[aZ]at H;obtain⟨V3,aw,H,h1⟩:=Rel.aJ H;refine wk ?_;rw[show((r6.len:Nat):Int)=((cL ks).length:Int)by omega];refine(iR (n:=((cL ks).length:Int)) H.data (by constructor<;>omega)).use ?_;rintro v w⟨r2,rfl,K⟩;replace H:=Rel.call H K;simp only[aZ]at H;obtain⟨V4,ar,H,h2⟩:=Rel.aJ H;refine wk ?_;refine(lf H.data (h1.up ar) h2 aa).use ?_;rintro v w⟨r8,rfl,K⟩;replace H:=Rel.call H K;simp only[aZ]at H;obtain⟨V5,aN,H,h8⟩:=Rel.aJ H;have nn:=(aw.trans ar).trans aN;refine wk ?_;refine aP (S:=Nat×Sl) al [0,1,4,5,6,7,15,39,62] (λq=>[(9,iv q.1),(8,q.2.v)]) (λq w'=>q.1<=L.length/\∃V6,Sub V5 V6/\Rel W V [] V6 w'/\aF V6 q.2 ((az (e:Int)++az ((cL ks).length:Int))++(L.take q.1).flatMap gD)) (λq _=>L.length-q.1) (0,r8) ?_;conv=>whnf
  refine⟨sB,⟨Nat.zero_le _,V5,aS _,H,by rw[List.take_zero,List.flatMap_nil,aZ];exact h8⟩,?_⟩;clear H;rintro⟨q,r9⟩w⟨hq,V6,bC,H,h9⟩;dsimp only at hq H h9 |-;by_cases ny:q<L.length
  ·obtain⟨q0,d0,d1⟩:=(vX.up (nn.trans bC)).fF (g:=λr:bV=>iv r.1) (g':=λr:bV=>iv r.2) (λ_=>rfl) ny;obtain⟨i1,i2⟩:=hr1 L[q] (bS ny);obtain⟨x,hx⟩:∃x,x=L[q]:=⟨_,rfl⟩
   rw[<-hx]at d0 d1 i1 i2;have lL:=dq i1.1 i1.2;have iz:=dq i2.1 i2.2;have hLt:=ajI (l:=L) hr1 q;have dF:((az (e:Int)++az ((cL ks).length:Int))++(L.take q).flatMap gD).length<=20+20*q:=by rw[ak,ak];omega
   refine wk ?_;refine dX (id:=16) V6 [6] [11] [0,1,2,3,4,5,7,8,9,10,11,6,12,13,14,15] [(6,[]),(12,[6]),(13,[6,12]),(14,[6,12,13])] H ?_;intro w H;repeat' (refine wk ?_;first|(first|refine Kv.go H ?_|refine Kv.go2 H (by assumption) ?_|refine jI ?_|refine And.intro ?_ ?_|(refine H.nA ?_;intro w _ H))|(refine(iR (n:=x.1) H.data i1).use ?_;rintro v w⟨rq,rfl,K⟩;(replace H:=Rel.call H K);simp only[aZ]at H)|(refine(iR (n:=x.2) H.data i2).use ?_;rintro v w⟨rq,rfl,K⟩;(replace H:=Rel.call H K);simp only[List.cons_append,List.nil_append]at H))
   all_goals
    refine wk ?_
   obtain⟨Va,xV,H,ha⟩:=Rel.aJ H;obtain⟨Vb,vL,H,hb⟩:=Rel.aJ H;refine(lf H.data hb (ha.up vL) aa).use ?_;rintro v w⟨rj,rfl,K⟩;replace H:=Rel.call H K;simp only[aZ]at H;obtain⟨Vc,Mj,H,hc⟩:=Rel.aJ H;have TM:=(xV.trans vL).trans Mj;repeat' (refine wk ?_;(first|refine Kv.go H ?_|refine Kv.go2 H (by assumption) ?_|refine jI ?_|refine And.intro ?_ ?_|(refine H.nA ?_;intro w _ H)))
   refine wk ?_;refine(lf H.data (h9.up TM) hc (by rw[show(az x.1++az x.2).length=(az x.1).length+(az x.2).length from ak];omega)).use ?_;rintro v w⟨rk,rfl,K⟩;replace H:=Rel.call H K;simp only[aZ]at H;obtain⟨Vd,Mk,H,hd⟩:=Rel.aJ H;repeat' (refine wk ?_;(first|refine Kv.go H ?_|refine Kv.go2 H (by assumption) ?_|refine jI ?_|refine And.intro ?_ ?_|(refine H.nA ?_;intro w _ H)))
   ·trivial
   refine⟨(q+1,rk),sB,⟨by dsimp only;omega,Vd,(bC.trans TM).trans Mk,H.sx,?_⟩,by dsimp only;omega⟩;dsimp only;rw[bK ny,List.flatMap_append,List.flatMap_singleton,<-hx,<-bj];exact hd
  rw[bJ aa]at h9;refine wk ?_;exact⟨V6,r9,(hV2.trans nn).trans bC,H.sx,rfl,h9⟩
section
variable{b:ab}{e M p p1:Nat}(h0:fN b 0=.ok (e:Int) p)(he:e<5)(h1:fN b p=.ok (M:Int) p1)
include h0 he h1
end
theorem alx(hV:Sub V W){s:Sl}{l:ab}(hs:aF V s l)(hl:l.length<=100000):aB 30 [s.v] W (Ae W V (iH l)):=by
 have H:=aG hV;have hlen:=hs.len;refine eV Tryz.func30 81 [0,2,3,4,5,6,7,8,9,10,19,54,65] ?_;refine H.wn ?_;intro w b2 H;refine wk ?_;refine(ac2 H.data hs aa).use ?_;rintro q w⟨V2,r,hV2,K,rfl,hr⟩;replace H:=H.bd K;obtain⟨he,e5,hch⟩:=LB l;obtain⟨l1,l2⟩:=Lk hch he;obtain⟨cs,hcs⟩:∃cs,cs=(gO l).1:=⟨_,rfl⟩
 obtain⟨e,tc⟩:∃e,e=(gO l).2:=⟨_,rfl⟩
 rw[<-hcs]at hr hch l1 l2;rw[<-tc]at e5 |-;have hrl:=hr.len;have hto:iH l=if cs.any (λc=>decide (mB c))=true then none else some (kC ((lines cs).1.flatMap bR),lV e (lines cs).2):=by unfold iH;rw[<-hcs,<-tc]
 refine wk ?_;refine aP (S:=Nat) al [0,2,5,6,8,9,10,65] (λk=>[(7,iv k)]) (λk w'=>k<=cs.length/\(∀c∈cs.take k,¬mB c)/\Rel W V [.ay b2 (a8 aV) 27] V2 w') (λk _=>cs.length-k) 0 ?_;conv=>whnf
 refine⟨sB,⟨aa,ah,H⟩,?_⟩;clear H;rintro k w⟨hk,gb,H⟩;dsimp only at hk gb H |-;by_cases hlt:k<cs.length
 ·obtain⟨p0,c0⟩:=hr.aR (g:=λu:Nat=>iv (u:Int)) (λ_=>rfl) hlt;have hcl:=uN (hch _ (bS hlt));have hmem:=bS hlt;have ke:¬mB cs[k]->∀c∈cs.take (k+1),¬mB c:=λh c hc=>by
   rw[bK hlt]at hc;rcases List.mem_append.1 hc with h1|h1
   ·exact gb c h1
   rw[List.mem_singleton.1 h1];exact h
  obtain⟨c,kH⟩:∃c,c=cs[k]:=⟨_,rfl⟩
  rw[<-kH]at c0 hcl hmem ke;have hd:mB c->iH l=none:=λh=>by rw[hto,ag (wF.2 ⟨c,hmem,bw h⟩)]
  by_cases h32:c<32
  ·by_cases h9:c=9
   ·refine wk ((gd (c:Int) 127 159 _).use ?_);rintro v w'⟨rfl,rfl⟩;rw[bA aa];refine wk ?_;exact⟨sB,k+1,sB,⟨aa,ke (by unfold mB;omega),H.sx⟩,aa⟩
   by_cases h10:c=10
   ·refine wk ((gd (c:Int) 127 159 _).use ?_);rintro v w'⟨rfl,rfl⟩;rw[bA aa];refine wk ?_;exact⟨sB,k+1,sB,⟨aa,ke (by unfold mB;omega),H.sx⟩,aa⟩
   by_cases j7:c=13
   ·refine wk ((gd (c:Int) 127 159 _).use ?_);rintro v w'⟨rfl,rfl⟩;rw[bA aa];refine wk ?_;exact⟨sB,k+1,sB,⟨aa,ke (by unfold mB;omega),H.sx⟩,aa⟩
   rw[hd (by unfold mB;omega)];refine H.wg ?_;intro w H;exact⟨V2,aV,⟨none,0,0⟩,_,[],hV2,H.sx,cG _,aA.nil _ _,rfl⟩
  refine wk ((gd (c:Int) 127 159 _).use ?_);rintro v w'⟨rfl,rfl⟩;by_cases amH:127<=c/\c<=159
  ·rw[hd (by unfold mB;omega),bw aa];refine H.wg ?_;intro w H;exact⟨V2,aV,⟨none,0,0⟩,_,[],hV2,H.sx,cG _,aA.nil _ _,rfl⟩
  rw[bA aa];refine wk ?_;exact⟨sB,k+1,sB,⟨aa,ke (by unfold mB;omega),H.sx⟩,aa⟩
 rw[bJ aa]at gb;rw[ae (λh=>by obtain⟨c,hc,hd⟩:=wF.1 h;exact gb c hc (of_decide_eq_true hd))]at hto
 rw[hto];obtain⟨a1,a2,a3,a4,a5⟩:=Er _ cs (Nat.le_refl _);have AV:∀c∈(lines cs).1,eg c:=λc hc=>by
  rcases a5 c hc with h|h
  ·rw[h];unfold eg;omega
  exact hch c h
 refine wk ?_;refine(afA H.data hr aa).use ?_;rintro q w⟨V3,r1,r2,aw,K,rfl,hr1,hr2⟩;replace H:=H.bd K;obtain⟨L,hL⟩:∃L,L=(lines cs).1:=⟨_,rfl⟩
 rw[<-hL]at a4 AV hr1 |-;have am8:=hr1.len;refine H.wn ?_;intro w b9 H;refine H.wg ?_;intro w H;replace H:=H.br 5 1;have H0:Rel W V [.row ⟨none,0,0⟩ 5 1 (([]:ab).flatMap aI),.ay b9 (a8 (ft ⟨none,0,0⟩)) 27,.ay b2 (a8 aV) 27] V3 w:=H;clear H;have H:=H0;clear H0;refine aP (S:=Nat×Sl) al [0,2,3,4,5,6,7,8,9,19,54] (λq=>[(10,iv q.1)]) (λq w'=>q.1<=L.length/\∃V4,Sub V3 V4/\Rel W V [.row q.2 5 1 (((L.take q.1).flatMap bR).flatMap aI),.ay b9 (a8 (ft q.2)) 27,.ay b2 (a8 aV) 27] V4 w') (λq _=>L.length-q.1) (0,⟨none,0,0⟩) ?_;conv=>whnf
 refine⟨sB,⟨Nat.zero_le _,V3,aS _,H⟩,?_⟩;clear H;rintro⟨k,r9⟩w⟨hk,V4,ar,H⟩;dsimp only at hk H |-;have H6:=Kb L k;by_cases hlt:k<L.length
 ·obtain⟨p0,c0⟩:=(hr1.up ar).aR (g:=λu:Nat=>iv (u:Int)) (λ_=>rfl) hlt;refine wk ?_;refine eJ (id:=12) al mixed [6] [0,1,2,3,4,5,6,7,8,9] av ?_;intro w bG;replace H:=Rel.ext H bG.ext;refine wk ((Zn H.data (AV _ (bS hlt))).use ?_);rintro v w⟨V5,r4,aN,K,rfl,hr4⟩;replace H:=H.bd K;have UN:=nP L[k];refine wk ?_;refine Rel.aaO H hr4 (by rw[vf];omega) ?_;intro rn w H;refine H.wg ?_;intro w H;refine⟨sB,(k+1,rn),sB,⟨by dsimp only;omega,V5,ar.trans aN,?_⟩,by dsimp only;omega⟩;dsimp only;rw[bK hlt,P6];exact H.sx
 rw[bJ aa]at H;obtain⟨V5,aN,H,pn⟩:=Rel.aJ H;refine wk ?_;refine eJ (id:=13) al mixed [3] [0,1,2,3,4,5,6] av ?_;intro w bG;replace H:=Rel.ext H bG.ext;refine wk ?_;refine(alv H.data ((hr2.up ar).up aN) aa a2 e5).use ?_;rintro v w⟨V6,r6,bC,K,rfl,vX⟩;replace H:=H.bd K;refine H.wg ?_;intro w H;exact⟨V6,ft r9,r6,_,_,(((hV2.trans aw).trans ar).trans aN).trans bC,H.sx,tS (pn.up bC),vX,rfl,rfl⟩
structure ZZ(W V:ad)(x:vk)(q:aj)(w':ad):Prop where
 ex:∃(V':ad) (h:VH) (r:Sl),Sub V V'/\Rel W V [] V' w'/\q=EW x.1 h r/\cb V' h x.2.1/\aF V' r x.2.2
theorem abY(hV:Sub V W){s:Sl}{l:ab}(hs:aF V s l)(hl:l.length<=1000):aB 12 [s.v] W (ZZ W V (kT l)):=by
 have H:=aG hV;refine eV Tryz.func12 85 [0,2,3,4,5,6,7,8,9,10,11,12,13,14,15,16,17,18,19,20,27,37,47,57,67,77] ?_;refine H.wn ?_;intro w b2 H;have TJ:=aS V;refine wk ?_;refine(akn H.data (hs.up TJ) aa).use ?_;rintro q w⟨V1,h0,r0,v0,d0,AR,K,hv0,kf,hto⟩;replace H:=H.bd K;have hV1:=TJ.trans AR;cases e0:gg l with
 | some x =>
  rw[e0]at hto;obtain⟨rfl,rfl⟩:=hto;rw[xB (j:=0) (x:=(v0,d0)) aa (λi hi=>?_) e0];rotate_left
  ·exact absurd hi aa
  refine H.wn ?_;intro w b3 H;refine H.wg ?_;intro _ w H;exact⟨V1,h0,r0,hV1,H.sx,rfl,hv0,kf⟩
 | none =>
 rw[e0]at hto;dsimp only at hto;subst hto;refine H.wn ?_;intro w b3 H;refine H.wg ?_;intro w H;refine(ahu H.data (hs.up hV1) aa).use ?_;rintro q w⟨V2,h1,r1,v1,d1,hW2,K,hv1,hr1,hto⟩;replace H:=H.bd K;have hV2:=hV1.trans hW2;cases e1:fh l with
 | some x =>
  rw[e1]at hto;obtain⟨rfl,rfl⟩:=hto;rw[xB (j:=1) (x:=(v1,d1)) aa (λi hi=>?_) e1];rotate_left
  ·have h7:i=0:=aa;subst h7;exact e0
  refine H.wn ?_;intro w b6 H;refine H.wg ?_;intro _ w H;exact⟨V2,h1,r1,hV2,H.sx,rfl,hv1,hr1⟩
 | none =>
 rw[e1]at hto;dsimp only at hto;subst hto;refine H.wn ?_;intro w b6 H;refine H.wg ?_;intro w H;refine(aeV H.data (hs.up hV2) aa).use ?_;rintro q w⟨V3,h2,r2,v2,d2,hW3,K,hv2,hr2,hto⟩;replace H:=H.bd K;have aw:=hV2.trans hW3;cases e2:hC l with
 | some x =>
  rw[e2]at hto;obtain⟨rfl,rfl⟩:=hto;rw[xB (j:=2) (x:=(v2,d2)) aa (λi hi=>?_) e2];rotate_left
  ·have h7:i=0\/i=1:=aa;rcases h7 with rfl|rfl
   ·exact e0
   exact e1
  refine H.wn ?_;intro w b9 H;refine H.wg ?_;intro _ w H;exact⟨V3,h2,r2,aw,H.sx,rfl,hv2,hr2⟩
 | none =>
 rw[e2]at hto;dsimp only at hto;subst hto;refine H.wn ?_;intro w b9 H;refine H.wg ?_;intro w H;refine(akN H.data (hs.up aw) aa).use ?_;rintro q w⟨V4,h3,r3,v3,d3,hW4,K,uJ,hr3,hto⟩;replace H:=H.bd K;have ar:=aw.trans hW4;cases e3:gU l with
 | some x =>
  rw[e3]at hto;obtain⟨rfl,rfl⟩:=hto;rw[xB (j:=3) (x:=(v3,d3)) aa (λi hi=>?_) e3];rotate_left
  ·have h7:i=0\/i=1\/i=2:=aa;rcases h7 with rfl|rfl|rfl
   ·exact e0
   ·exact e1
   exact e2
  refine H.wn ?_;intro w ud H;refine H.wg ?_;intro _ w H;exact⟨V4,h3,r3,ar,H.sx,rfl,uJ,hr3⟩
 | none =>
 rw[e3]at hto;dsimp only at hto;subst hto;refine H.wn ?_;intro w ud H;refine H.wg ?_;intro w H;refine(alm H.data (hs.up ar) aa).use ?_;rintro q w⟨V5,h4,r4,v4,d4,hW5,K,Ej,hr4,hto⟩;replace H:=H.bd K;have aN:=ar.trans hW5;cases e4:iG l with
 | some x =>
  rw[e4]at hto;obtain⟨rfl,rfl⟩:=hto;rw[xB (j:=4) (x:=(v4,d4)) aa (λi hi=>?_) e4];rotate_left
  ·have h7:i=0\/i=1\/i=2\/i=3:=aa;rcases h7 with rfl|rfl|rfl|rfl
   ·exact e0
   ·exact e1
   ·exact e2
   exact e3
  refine H.wn ?_;intro w pV H;refine H.wg ?_;intro _ w H;exact⟨V5,h4,r4,aN,H.sx,rfl,Ej,hr4⟩
 | none =>
 rw[e4]at hto;dsimp only at hto;subst hto;refine H.wn ?_;intro w pV H;refine H.wg ?_;intro w H;refine(alx H.data (hs.up aN) aa).use ?_;rintro q w⟨V6,h5,r5,v5,d5,hW6,K,hv5,jU,hto⟩;replace H:=H.bd K;have bC:=aN.trans hW6;cases e5:iH l with
 | some x =>
  rw[e5]at hto;obtain⟨rfl,rfl⟩:=hto;rw[xB (j:=5) (x:=(v5,d5)) aa (λi hi=>?_) e5];rotate_left
  ·have h7:i=0\/i=1\/i=2\/i=3\/i=4:=aa;rcases h7 with rfl|rfl|rfl|rfl|rfl
   ·exact e0
   ·exact e1
   ·exact e2
   ·exact e3
   exact e4
  refine H.wn ?_;intro w CL H;refine H.wg ?_;intro _ w H;exact⟨V6,h5,r5,bC,H.sx,rfl,hv5,jU⟩
 | none =>
 rw[e5]at hto;dsimp only at hto;subst hto;refine H.wn ?_;intro w CL H;rw[RA λi hi=>?_];rotate_left
 ·have h7:i=0\/i=1\/i=2\/i=3\/i=4\/i=5:=aa;rcases h7 with rfl|rfl|rfl|rfl|rfl|rfl
  ·exact e0
  ·exact e1
  ·exact e2
  ·exact e3
  ·exact e4
  exact e5
 refine H.wg ?_;intro w H;refine(C3 H.data (hs.up bC) aa).use ?_;rintro q w⟨r,rfl,K⟩;replace H:=H.cq K;obtain⟨V7,fH,H,hr⟩:=Rel.aJ H;refine H.wg ?_;intro w H;exact⟨V7,ft r,⟨none,0,0⟩,bC.trans fH,H.sx,rfl,tS hr,aA.nil _ _⟩
theorem afp(hT:pM W){s:Sl}{l:ab}(hs0:By W s l)(hl:l.length<=1048576):aB 3 [s.v] W λv w'=>v=.bool true/\Ext W w':=by
 have H:=aG (aS W);have hs:=hs0.slf;have hlen:=hs.len;refine eV Tryz.func3 32 [0,2,3,4,6,14] ?_;refine wk ((acT H.data hT).use ?_);rintro q w⟨rfl,V1,hV1,K⟩;replace H:=H.bd K;refine wk ((J3 H.data (hT.up hV1) (hs.up hV1) hl).use ?_);rintro q w⟨V2,h,r,hV2,K,rfl,hv,hr⟩;replace H:=H.bd K;have xT:=hV1.trans hV2;by_cases h1:1000<l.length
 ·have e:sX l=((0,zeroV,[]),3, -1):=ag h1;rw[e]at hv hr |-;dsimp only at hv hr |-;refine H.wn ?_;intro w b3 H;refine H.wn ?_;intro w b4 H;refine H.wg ?_;intro _ w H;refine dV 5 [1] [0,1,2,3,4,5,6,7,8] H ?_;intro w H;refine wk ((Gz H.data 3 (-1)).use ?_);rintro q w⟨rfl,K⟩;replace H:=H.bd K;refine wk ?_;refine(XZ (k:=0) (k':=0) (h':=aV) (s':=⟨none,0,0⟩) (r':=[]) H.data hv (cG _) (ame _) hr (aA.nil _ _) ai ai).use ?_;rintro q w⟨c,rfl,hc,K⟩;replace H:=H.bd K;obtain rfl:=hc.2 rfl;refine wk ?_;(first|exact H.base|exact⟨ah,H.base⟩|exact⟨rfl,H.base⟩)
 have e1:sX l=(kT l,0,0):=ae h1;rw[e1]at hv hr |-;dsimp only at hv hr |-;obtain⟨hok,hB,hrl⟩:=Rz (l:=l) aa;have hk:cY (kT l).1:=hok.i64;refine H.wn ?_;intro w b3 H;refine H.wn ?_;intro w b4 H;refine H.wg ?_;intro _ w H;refine dV 6 [6] [0,1,2,3,4,5,6,7,8,9] H ?_;intro w H;refine wk ?_;refine(abY H.data (hs.up xT) aa).use ?_;rintro q w⟨V3,h3,r3,aw,K,rfl,uJ,hr3⟩;replace H:=H.bd K;refine wk ((XZ H.data (hv.up aw) uJ (amc hB) (hr.up aw) hr3 hk hk).use ?_);rintro q w⟨c,rfl,hc,K⟩;replace H:=H.bd K;obtain rfl:=hc.2 rfl;refine wk ?_;(first|exact H.base|exact⟨ah,H.base⟩|exact⟨rfl,H.base⟩)
section
open Go Go.ChangeShapes Go.WideShapes Go.ChangeAt Go.RowKit
def O8:Shelf.Ren:=⟨λx=>x,λx=>if x=5 then 5 else if x=119 then 258 else if x=138 then 260 else if x=139 then 261 else x,λx=>if x=3 then 0 else 1⟩
theorem alB:U8Types Tryz.prog O8:=⟨av,av,av,av⟩
theorem alA:U8Extra Tryz.prog O8:=⟨av,av,av,av,av,av,av⟩
theorem ac5:Rows.laid_unicode_utf8_first=Lib.firstData:=av
theorem aaA:(Rows.laid_unicode_utf8_acceptRanges:DataW Unit)=Lib.acceptData:=av
theorem agd(h:W.ShapedOpen Tryz.prog):pO W :=
 cell_of_shapedOpen_int (g:=2) (t:=3) (zero:=#[.int .i64 0]) h (of_decide_eq_true av) av rfl av av Tryz.underlying3
theorem age(h:W.ShapedOpen Tryz.prog):vm W :=
 cell_of_shapedOpen_int (g:=2) (t:=3) (zero:=#[.int .i64 0]) h (of_decide_eq_true av) av rfl av av Tryz.underlying3
abbrev ab2:List (String×DataW Unit):=[("math/bits.deBruijn32tab",Rows.laid_math_bits_deBruijn32tab),("math/bits.deBruijn64tab",Rows.laid_math_bits_deBruijn64tab),("internal/strconv.uint64pow10",Rows.laid_internal_strconv_uint64pow10),("unicode/utf8.acceptRanges",Rows.laid_unicode_utf8_acceptRanges),("strconv.ErrRange",Rows.laid_strconv_ErrRange),("strconv.ErrSyntax",Rows.laid_strconv_ErrSyntax),("unicode/utf8.first",Rows.laid_unicode_utf8_first)]
theorem ahJ:(Rows.laid_internal_strconv_uint64pow10:DataW Unit)=Lib.tabData .u64 Lib.pow10Tab:=av
theorem ahK(h:Lib.VarReads Tryz.prog W "internal/strconv.uint64pow10" (Lib.tabData .u64 Lib.pow10Tab)):Lib.TabIs Tryz.prog W "internal/strconv.uint64pow10" .u64 Lib.pow10Tab:=by obtain⟨g,t,cs,fuel,p,hg,ht,hv,hd⟩:=h;obtain rfl:=dT ((show Tryz.prog.globalNamed "internal/strconv.uint64pow10"=some 3 by kernel_rfl).symm.trans hg);obtain rfl:=dT ((show(Tryz.prog.globals[(3:Nat)]?).map (·.type)=some 407 by kernel_rfl).symm.trans ht);unfold Lib.TabIs;rw[hv,<-Lib.cells_of_tab Tryz.underlying407 Tryz.underlying218 av av hd]
theorem SL{n:String}{g:Nat}{nm:String}{d:DataW Unit}(hg0:Tryz.prog.globalNamed n=some g)(ht0:(Tryz.prog.globals[g]?).map (·.type)=some 369)(h:Lib.VarReads Tryz.prog W n (.iface nm d)):∃t p,W.cell? ⟨g,0,none⟩=some (.iface t p):=by obtain⟨g',t,cs,fuel,p,hg,ht,hv,hd⟩:=h;obtain rfl:=dT (hg0.symm.trans hg);obtain rfl:=dT (ht0.symm.trans ht);obtain⟨_,u,v,hc,_⟩:=iface_of_trod Tryz.underlying369 hd;have:=World.var?_cell hg hv 0;rw[Array.eq_one_of_toList hc]at this;exact⟨u,v,by simpa using this⟩
theorem ab3(h0:laidMetH Tryz.prog ab2 W)(hsh:W.ShapedOpen Tryz.prog):pM W:=by rw[MakeChecks.laidMetH_plain _ _ _ av]at h0;have h5:=Jm h0 (n := "strconv.ErrSyntax") (d:=Rows.laid_strconv_ErrSyntax) ah;have h6:=Jm h0 (n := "strconv.ErrRange") (d:=Rows.laid_strconv_ErrRange) ah;have ha:=Jm h0 (n := "unicode/utf8.acceptRanges") (d:=Rows.laid_unicode_utf8_acceptRanges) ah;have hf:=Jm h0 (n := "unicode/utf8.first") (d:=Rows.laid_unicode_utf8_first) ah;exact⟨utf8Tabs_of_readsT (ρ:=O8) alB alA (ac5▸hf) (aaA▸ha),⟨ahK (ahJ▸Jm h0 ah),SL av av h5,SL av av h6⟩,agd hsh,age hsh⟩
def lv0:DataW Unit->aC
 | .lit (.int k z)=>[.int k z]
 | _=>[]
def EA:DataW Unit->aC
 | .agg l=>l.flatMap lv0
 | _=>[]
def lv2:DataW Unit->aC
 | .agg l=>l.flatMap EA
 | _=>[]
def xM(l:aC):Obj->Obj
 | .cells _ t frozen=>.cells l.toArray t frozen
 | o=>o
def SK(b:Nat):aC:=[.iface 421 (.pointer (some ⟨b,0,none⟩))]
def SJ(l:ab):Obj:=.cells #[str l] 423 (0,0)
noncomputable def afm(h:Array Obj):Array Obj :=
 ((((((((h.modify 0 (xM (EA Rows.laid_unicode_utf8_first))).modify 1 (xM (lv2 Rows.laid_unicode_utf8_acceptRanges))).modify 3 (xM (EA Rows.laid_internal_strconv_uint64pow10))).modify 4 (xM (SK h.size))).modify 5 (xM (SK (h.size+1)))).modify 6 (xM (EA Rows.laid_math_bits_deBruijn32tab))).modify 7 (xM (EA Rows.laid_math_bits_deBruijn64tab))).push (SJ [105,110,118,97,108,105,100,32,115,121,110,116,97,120])).push (SJ [118,97,108,117,101,32,111,117,116,32,111,102,32,114,97,110,103,101])
noncomputable def NH(os:Os):ad :=
 { World.holding Tryz.prog os ⟨#[],#[],[]⟩with heap:=afm (World.holding Tryz.prog os ⟨#[],#[],[]⟩).heap }
end
end Go.Proofs.YtmoiobegbpkkbaaGreatDoor
