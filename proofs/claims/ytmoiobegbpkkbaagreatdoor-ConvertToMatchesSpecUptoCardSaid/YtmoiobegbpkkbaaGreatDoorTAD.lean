import Derived.Test.YtmoiobegbpkkbaaGreatDoorTAC
open Bool renaming false_eq_true->sw
open Decidable renaming not_not->pB,byContradiction->E5
open Go.Value renaming int->bO
open List renaming getElem?_cons_succ->y8,range->bZ,getElem?_map->ib,all_eq_true->bc,getElem?_eq_none->lO,mem_cons->bP,append_nil->aZ,length_nil->aK,take_append_drop->eW,getElem?_eq_some_iff->dH,length_cons->aq,foldl_cons->BW,take_of_length_le->bJ,drop_drop->gK,append_assoc->bj,nil_append->aL,mem_map->cJ,length_append->ak,length_take->bg,length_drop->aU,take_succ_cons->sy,length->bU,flatMap_cons->bD,mem_append->cc,mem_filter->y0,mem_range->oG,eq_nil_of_length_eq_zero->dt,nodup_append->rZ,drop_eq_nil_of_le->sb,getElem?_take->BM,replicate->eP,getElem_mem->bS,any_eq_true->wF,mem_of_mem_take->nG,not_mem_nil->tA,take_succ_eq_append_getElem->bK,take_length->fA,drop_succ_cons->wG,drop_eq_getElem_cons->dk,getElem?_append_left->qx,flatMap_append->cw,flatMap_nil->eL,mem_singleton->cz,length_pos_iff->iC,getElem?_eq_getElem->bz,flatMap_def->WV,flatMap_map->se,map_cons->fO,sum_cons->qy,map_congr_left->qz,drop_zero->lj,getElem?_cons_zero->Ja,foldl_append->E7,filter_cons_of_pos->Jb,filter_cons_of_neg->Jc,getElem?_append_right->BQ,flatten_cons->pC,flatten_nil->BS,length_map->aW,map_append->dU,map_nil->lk,range_succ->oH,ext_getElem?->zc,getElem_of_mem->W7,sum_append->Je,range_succ_eq_map->E8,map_map->pD,map_id->ze,getElem_cons_zero->qA,reverse_cons->ah0,take_left'->E9,reverse_append->Xa,length_reverse->ah1,append_eq_nil_iff->BT,getElem?_reverse->Fa
open Nat renaming le_refl->aQ,add_comm->sq,succ_mul->qB,mul_le_mul_right->kr,zero_add->dR,add_mul->wE,zero_le->cE,mul_assoc->BO,mod_eq_of_lt->wI,min_eq_left->tB,lt_succ_self->sj,add_mod_right->W8,dvd_of_mod_eq_zero->ahY,mul_mod_right->ahZ
open Option renaming getD_some->oI,map_some->gQ
open UInt8 renaming ofNat->aD,toNat_ofNat'->kt,toNat_inj->bL,toNat_lt->dm
namespace Go.Proofs.YtmoiobegbpkkbaaGreatDoor
open Go Go.RowKit
set_option maxRecDepth 100000
set_option maxHeartbeats 8000000
variable{W:ad}
variable{df:Bool}{ch full k d n m s i B coding c:Nat}{l r f b L X:ab}{α β:Type}{w V w0 V0 w':ad}{cs:List cu}{rate:Int}{ns:List iW}{C:Cx}{own:cx}
theorem alG(w:Bool)(v:Int):fK w v<bY w:=by unfold fK bY;split<;>omega
theorem FY(w:Bool)(l:List Int)(i:Nat):(l.map (fK w))[i]?.getD 0<bY w:=by
 rw[ib];cases l[i]? with
 | none=>show 0<bY w;unfold bY;split<;>omega
 | some x=>exact alG w x
theorem akX{l:au}(hf:0<full)(h:∀i:Nat,l[i]?.getD 0<full)(i:Nat):jg df ch full l i<full:=by
 unfold jg;split
 ·exact Nat.mod_lt _ hf
 exact h i
def oC(w df:Bool)(ch:Nat)(U:au)(k:Nat):ab:=(bZ k).flatMap λi=>iI w (jg df ch (bY w) U i)
theorem ET(w df:Bool)(ch:Nat)(U:au)(k:Nat):oC w df ch U (k+1)=oC w df ch U k++iI w (jg df ch (bY w) U k):=by unfold oC;rw[oH,cw];simp
theorem IM(w df:Bool)(ch:Nat)(U:au)(k:Nat):(oC w df ch U k).length<=2*k:=by
 induction k with
 | zero=>simp[oC]
 | succ k ih =>
  rw[ET,ak];have:(iI w (jg df ch (bY w) U k)).length<=2:=by unfold iI;split<;>simp
  omega
theorem JR(l:List Int)(coding ch:Nat):tJ l coding ch=oC (aH coding) (cj coding) ch (l.map (fK (aH coding))) l.length:=rfl
theorem J2(x:Int){m:Int}(hm:0<m) : -m<x.tmod m/\x.tmod m<m/\(x.tmod m+m)%m=x%m:=by
 have h1:=Int.tmod_eq_emod (a:=x) (b:=m);have h2:=Int.emod_nonneg x (show m≠0 by omega);have h3:=Int.emod_lt_of_pos x hm;have hna:(m.natAbs:Int)=m:=aa;have h4:(x.tmod m+m)%m=x%m:=by
  split at h1
  ·rw[show x.tmod m=x%m by omega,Int.add_emod_right,Int.emod_eq_of_lt h2 h3]
  rw[show x.tmod m+m=x%m by omega,Int.emod_eq_of_lt h2 h3]
 refine⟨?_,?_,h4⟩
 ·split at h1<;>omega
 split at h1<;>omega
theorem YL(x:Int):(x-x%256).tdiv 256=x/256:=by rw[show x-x%256=x/256*256 by omega];exact Int.mul_tdiv_cancel _ ai
theorem akl(hV:Sub V W){ch coding:Nat}(hc:coding<4)(hch:1<=ch/\ch<=2){s:Sl}{l:List Int}(hs:aA bN V s l)(hl:l.length<=1000000)(hb:∀x∈l, -32768<=x/\x<=32767) :
  aB 112 [s.v,iv coding,iv ch] W λv w'=>∃r:Sl,v=r.v/\Rel W V [.row r 5 1 ((tJ l coding ch).flatMap aI)] V w':=by
 have H:=aG hV;have hlen:=hs.len;have f256:bY false=256:=rfl;have f65:bY true=65536:=rfl;refine eV Tryz.func112 91 [0,1,2,6,7,8,9,10,11,12,13,16,20,28,50,63,83] ?_;refine wk ?_;obtain rfl|rfl|rfl|rfl:coding=0\/coding=1\/coding=2\/coding=3:=aa
 ·replace H:=H.br 3 1;refine wk ?_;refine aP (S:=Nat×Sl) al [0,1,2,6,7,11,12,13,16,50,63,83] (λk=>[(8,k.2.v),(9,iv k.1)]) (λk w'=>k.1<=l.length/\Rel W V [.row k.2 3 1 (((l.take k.1).map (fK (aH 0))).flatMap fT)] V w') (λk _=>l.length-k.1) (0,⟨none,0,0⟩) ?_;conv=>whnf
  refine⟨sB,⟨aa,H⟩,?_⟩;clear H;rintro⟨k,r8⟩w⟨hk,H⟩;dsimp only at hk H |-;have vR:=(H.cV (i:=0) rfl (λ_=>rfl) ai).len;rw[aW,bg]at vR;by_cases hlt:k<l.length;rotate_left
  ·rw[bJ aa]at H;obtain⟨U,hU⟩:∃U,U=l.map (fK (aH 0)):=⟨_,rfl⟩
   rw[JR,<-hU];rw[<-hU]at H;have jl:U.length=l.length:=by rw[hU,aW]
   rw[<-jl];have e9:∀i:Nat,U[i]?.getD 0<bY (aH 0):=by rw[hU];exact FY _ _
   clear hU;replace H:=H.br 5 1;refine wk ?_;refine aP (S:=Nat×Sl) al [0,1,2,6,7,8,9,10,16,20,28] (λj=>[(11,j.2.v),(12,iv j.1)]) (λj w'=>j.1<=U.length/\Rel W V [.row j.2 5 1 ((oC (aH 0) (cj 0) ch U j.1).flatMap aI),.row r8 3 1 (U.flatMap fT)] V w') (λj _=>U.length-j.1) (0,⟨none,0,0⟩) ?_;conv=>whnf
   refine⟨sB,⟨aa,H⟩,?_⟩;clear H;rintro⟨j,zk⟩w⟨hj,H⟩;dsimp only at hj H |-;by_cases eC:j<U.length;rotate_left
   ·have ej:j=U.length:=aa;rw[ej]at H;refine wk ?_;exact⟨zk,rfl,H.sx⟩
   have S8:=H.cV (i:=1) rfl (λ_=>rfl) ai;obtain⟨q0,e0⟩:=S8.aR (g:=λn:Nat=>iv (n:Int)) (λ_=>rfl) (i:=j) eC;have dF:=IM (aH 0) (cj 0) ch U j;have yl:=(H.cV (i:=0) rfl (λ_=>rfl) ai).len;have MN:=S8.len;have fw:=ET (aH 0) (cj 0) ch U j;have fJ:U[j]?.getD 0=U[j]:=by rw[bz eC];rfl
   have hub:=e9 j;rw[fJ]at hub;obtain⟨O,hO⟩:∃O,O=oC (aH 0) (cj 0) ch U j:=⟨_,rfl⟩
   rw[<-hO]at dF yl fw H;obtain⟨u,hu⟩:∃u,u=U[j]:=⟨_,rfl⟩
   rw[<-hu]at e0 hub fJ;rw[show jg (cj 0) ch (bY (aH 0)) U j=u by unfold jg;rw[ae (by simp[cj]),fJ]]at fw;have hub:u<256:=hub;refine H.wg ?_;intro _ w H;refine Rel.bF (f:=aI) (l:=O) (x:=aD (u)) rfl (λ_=>rfl) (by simp[Value.oneCell']) (H.cB (ng (n:=u) aa (by first|omega|(show(_:Int)%256=_;omega)))) (by simp;omega) (by simp;omega) ?_;intro rn w H;refine wk ?_;refine⟨sB,(j+1,rn),sB,⟨by dsimp only;omega,?_⟩,by dsimp only;omega⟩;dsimp only;rw[fw];exact H.sx
  have oq:=hb _ (bS hlt);obtain⟨p0,d0⟩:=hs.aR (g:=iv) (λ_=>rfl) hlt;obtain⟨x,hx⟩:∃x,x=l[k]:=⟨_,rfl⟩
  rw[<-hx]at d0 oq;refine wk ?_;obtain⟨po,jG,uG⟩:=J2 x (m:=256) ai;refine .inr ⟨aa,?_⟩;obtain⟨t,ht⟩:∃t,t=x.tmod 256:=⟨_,rfl⟩
  rw[<-ht]at po jG uG |-;refine wk ?_;refine .inr ⟨aa,?_⟩;rw[uG,YL];refine H.wg ?_;intro _ w H;refine Rel.bF (f:=fT) (l:=(l.take k).map (fK (aH 0))) (x:=fK (aH 0) x) rfl (λ_=>rfl) (bc.1 rfl) (H.cB (c':=fT (fK (aH 0) x)) (ax (λz=>[bO .i64 z]) (by show _=((((x/256+128)%256).toNat:Nat):Int);omega))) (by simp;omega) (by simp;omega) ?_;intro pH w H;refine wk ?_;refine⟨sB,(k+1,pH),sB,⟨by dsimp only;omega,?_⟩,by dsimp only;omega⟩;dsimp only;rw[bK hlt,dU,<-hx];exact H.sx
 ·replace H:=H.br 3 1;refine wk ?_;refine aP (S:=Nat×Sl) al [0,1,2,6,7,11,12,13,16,50,63,83] (λk=>[(8,k.2.v),(9,iv k.1)]) (λk w'=>k.1<=l.length/\Rel W V [.row k.2 3 1 (((l.take k.1).map (fK (aH 1))).flatMap fT)] V w') (λk _=>l.length-k.1) (0,⟨none,0,0⟩) ?_;conv=>whnf
  refine⟨sB,⟨aa,H⟩,?_⟩;clear H;rintro⟨k,r8⟩w⟨hk,H⟩;dsimp only at hk H |-;have vR:=(H.cV (i:=0) rfl (λ_=>rfl) ai).len;rw[aW,bg]at vR;by_cases hlt:k<l.length;rotate_left
  ·rw[bJ aa]at H;obtain⟨U,hU⟩:∃U,U=l.map (fK (aH 1)):=⟨_,rfl⟩
   rw[JR,<-hU];rw[<-hU]at H;have jl:U.length=l.length:=by rw[hU,aW]
   rw[<-jl];have e9:∀i:Nat,U[i]?.getD 0<bY (aH 1):=by rw[hU];exact FY _ _
   clear hU;replace H:=H.br 5 1;refine wk ?_;refine aP (S:=Nat×Sl) al [0,1,2,6,7,8,9,10,16,20,28] (λj=>[(11,j.2.v),(12,iv j.1)]) (λj w'=>j.1<=U.length/\Rel W V [.row j.2 5 1 ((oC (aH 1) (cj 1) ch U j.1).flatMap aI),.row r8 3 1 (U.flatMap fT)] V w') (λj _=>U.length-j.1) (0,⟨none,0,0⟩) ?_;conv=>whnf
   refine⟨sB,⟨aa,H⟩,?_⟩;clear H;rintro⟨j,zk⟩w⟨hj,H⟩;dsimp only at hj H |-;by_cases eC:j<U.length;rotate_left
   ·have ej:j=U.length:=aa;rw[ej]at H;refine wk ?_;exact⟨zk,rfl,H.sx⟩
   have S8:=H.cV (i:=1) rfl (λ_=>rfl) ai;obtain⟨q0,e0⟩:=S8.aR (g:=λn:Nat=>iv (n:Int)) (λ_=>rfl) (i:=j) eC;have dF:=IM (aH 1) (cj 1) ch U j;have yl:=(H.cV (i:=0) rfl (λ_=>rfl) ai).len;have MN:=S8.len;have fw:=ET (aH 1) (cj 1) ch U j;have fJ:U[j]?.getD 0=U[j]:=by rw[bz eC];rfl
   have hub:=e9 j;rw[fJ]at hub;obtain⟨O,hO⟩:∃O,O=oC (aH 1) (cj 1) ch U j:=⟨_,rfl⟩
   rw[<-hO]at dF yl fw H;obtain⟨u,hu⟩:∃u,u=U[j]:=⟨_,rfl⟩
   rw[<-hu]at e0 hub fJ;rw[show jg (cj 1) ch (bY (aH 1)) U j=u by unfold jg;rw[ae (by simp[cj]),fJ]]at fw;have hub:u<65536:=hub;refine H.wg ?_;intro _ w H;refine Rel.bF (f:=aI) (l:=O) (x:=aD (u%256)) rfl (λ_=>rfl) (by simp[Value.oneCell']) (H.cB (ng (n:=u%256) aa (by first|omega|(show(_:Int)%256=_;omega)))) (by simp;omega) (by simp;omega) ?_;intro rn w H;refine H.wg ?_;intro _ w H;refine Rel.bF (f:=aI) (l:=O++[aD (u%256)]) (x:=aD (u/256)) rfl (λ_=>rfl) (by simp[Value.oneCell']) (H.cB (ng (n:=u/256) aa (by first|omega|(show(_:Int)%256=_;omega)))) (by simp;omega) (by simp;omega) ?_;intro rn w H;refine wk ?_;refine⟨sB,(j+1,rn),sB,⟨by dsimp only;omega,?_⟩,by dsimp only;omega⟩;dsimp only;rw[fw];rw[bj]at H;exact H.sx
  have oq:=hb _ (bS hlt);obtain⟨p0,d0⟩:=hs.aR (g:=iv) (λ_=>rfl) hlt;obtain⟨x,hx⟩:∃x,x=l[k]:=⟨_,rfl⟩
  rw[<-hx]at d0 oq;refine wk ?_;obtain⟨po,jG,uG⟩:=J2 x (m:=65536) ai;refine .inr ⟨aa,?_⟩;obtain⟨t,ht⟩:∃t,t=x.tmod 65536:=⟨_,rfl⟩
  rw[<-ht]at po jG uG |-;refine H.wg ?_;intro _ w H;refine Rel.bF (f:=fT) (l:=(l.take k).map (fK (aH 1))) (x:=fK (aH 1) x) rfl (λ_=>rfl) (bc.1 rfl) (H.cB (c':=fT (fK (aH 1) x)) (ax (λz=>[bO .i64 z]) (by show _=(((x%65536).toNat:Nat):Int);omega))) (by simp;omega) (by simp;omega) ?_;intro pH w H;refine wk ?_;refine⟨sB,(k+1,pH),sB,⟨by dsimp only;omega,?_⟩,by dsimp only;omega⟩;dsimp only;rw[bK hlt,dU,<-hx];exact H.sx
 ·replace H:=H.br 3 1;refine wk ?_;refine aP (S:=Nat×Sl) al [0,1,2,6,7,11,12,13,16,50,63,83] (λk=>[(8,k.2.v),(9,iv k.1)]) (λk w'=>k.1<=l.length/\Rel W V [.row k.2 3 1 (((l.take k.1).map (fK (aH 2))).flatMap fT)] V w') (λk _=>l.length-k.1) (0,⟨none,0,0⟩) ?_;conv=>whnf
  refine⟨sB,⟨aa,H⟩,?_⟩;clear H;rintro⟨k,r8⟩w⟨hk,H⟩;dsimp only at hk H |-;have vR:=(H.cV (i:=0) rfl (λ_=>rfl) ai).len;rw[aW,bg]at vR;by_cases hlt:k<l.length;rotate_left
  ·rw[bJ aa]at H;obtain⟨U,hU⟩:∃U,U=l.map (fK (aH 2)):=⟨_,rfl⟩
   rw[JR,<-hU];rw[<-hU]at H;have jl:U.length=l.length:=by rw[hU,aW]
   rw[<-jl];have e9:∀i:Nat,U[i]?.getD 0<bY (aH 2):=by rw[hU];exact FY _ _
   clear hU;replace H:=H.br 5 1;refine wk ?_;refine aP (S:=Nat×Sl) al [0,1,2,6,7,8,9,10,16,20,28] (λj=>[(11,j.2.v),(12,iv j.1)]) (λj w'=>j.1<=U.length/\Rel W V [.row j.2 5 1 ((oC (aH 2) (cj 2) ch U j.1).flatMap aI),.row r8 3 1 (U.flatMap fT)] V w') (λj _=>U.length-j.1) (0,⟨none,0,0⟩) ?_;conv=>whnf
   refine⟨sB,⟨aa,H⟩,?_⟩;clear H;rintro⟨j,zk⟩w⟨hj,H⟩;dsimp only at hj H |-;by_cases eC:j<U.length;rotate_left
   ·have ej:j=U.length:=aa;rw[ej]at H;refine wk ?_;exact⟨zk,rfl,H.sx⟩
   have S8:=H.cV (i:=1) rfl (λ_=>rfl) ai;obtain⟨q0,e0⟩:=S8.aR (g:=λn:Nat=>iv (n:Int)) (λ_=>rfl) (i:=j) eC;have dF:=IM (aH 2) (cj 2) ch U j;have yl:=(H.cV (i:=0) rfl (λ_=>rfl) ai).len;have MN:=S8.len;have fw:=ET (aH 2) (cj 2) ch U j;have fJ:U[j]?.getD 0=U[j]:=by rw[bz eC];rfl
   have hub:=e9 j;rw[fJ]at hub;obtain⟨O,hO⟩:∃O,O=oC (aH 2) (cj 2) ch U j:=⟨_,rfl⟩
   rw[<-hO]at dF yl fw H;by_cases hdf:ch<=j
   ·obtain⟨q1,e1⟩:=S8.aR (g:=λn:Nat=>iv (n:Int)) (λ_=>rfl) (i:=j-ch) aa;have dO:U[j-ch]?.getD 0=U[j-ch]:=by rw[bz aa];rfl
    have yH:=e9 (j-ch);rw[dO]at yH;have ej:((j:Int)-(ch:Int))=((j-ch:Nat):Int):=aa;obtain⟨a,ha⟩:∃a,a=U[j]:=⟨_,rfl⟩
    obtain⟨b,jD⟩:∃b,b=U[j-ch]:=⟨_,rfl⟩
    rw[<-ha]at e0 hub fJ;rw[<-jD]at e1 yH dO;obtain⟨u,hu⟩:∃u,u=(a+256-b)%256:=⟨_,rfl⟩
    rw[show jg (cj 2) ch (bY (aH 2)) U j=u by unfold jg;rw[ag (by exact⟨ai,hdf⟩),fJ,dO,hu];rfl]at fw;have aeP:b<256:=yH;have aeO:a<256:=hub;have uI:u<256:=aa;have ez:((a:Int)-(b:Int)+256)%256=(u:Int):=aa;refine wk ?_;rw[ej];refine H.wg ?_;intro _ w H;try rw[ez]at H
    rw[ez];refine wk ?_;refine Rel.bF (f:=aI) (l:=O) (x:=aD (u)) rfl (λ_=>rfl) (by simp[Value.oneCell']) (H.cB (ng (n:=u) aa (by first|omega|(show(_:Int)%256=_;omega)))) (by simp;omega) (by simp;omega) ?_;intro rn w H;refine wk ?_;refine⟨sB,(j+1,rn),sB,⟨by dsimp only;omega,?_⟩,by dsimp only;omega⟩;dsimp only;rw[fw];exact H.sx
   obtain⟨u,hu⟩:∃u,u=U[j]:=⟨_,rfl⟩
   rw[<-hu]at e0 hub fJ;rw[show jg (cj 2) ch (bY (aH 2)) U j=u by unfold jg;rw[ae (λh=>hdf h.2),fJ]]at fw;have hub:u<256:=hub;refine H.wg ?_;intro _ w H;refine Rel.bF (f:=aI) (l:=O) (x:=aD (u)) rfl (λ_=>rfl) (by simp[Value.oneCell']) (H.cB (ng (n:=u) aa (by first|omega|(show(_:Int)%256=_;omega)))) (by simp;omega) (by simp;omega) ?_;intro rn w H;refine wk ?_;refine⟨sB,(j+1,rn),sB,⟨by dsimp only;omega,?_⟩,by dsimp only;omega⟩;dsimp only;rw[fw];exact H.sx
  have oq:=hb _ (bS hlt);obtain⟨p0,d0⟩:=hs.aR (g:=iv) (λ_=>rfl) hlt;obtain⟨x,hx⟩:∃x,x=l[k]:=⟨_,rfl⟩
  rw[<-hx]at d0 oq;refine wk ?_;obtain⟨po,jG,uG⟩:=J2 x (m:=256) ai;refine .inr ⟨aa,?_⟩;obtain⟨t,ht⟩:∃t,t=x.tmod 256:=⟨_,rfl⟩
  rw[<-ht]at po jG uG |-;refine wk ?_;refine .inr ⟨aa,?_⟩;rw[uG,YL];refine H.wg ?_;intro _ w H;refine Rel.bF (f:=fT) (l:=(l.take k).map (fK (aH 2))) (x:=fK (aH 2) x) rfl (λ_=>rfl) (bc.1 rfl) (H.cB (c':=fT (fK (aH 2) x)) (ax (λz=>[bO .i64 z]) (by show _=((((x/256+128)%256).toNat:Nat):Int);omega))) (by simp;omega) (by simp;omega) ?_;intro pH w H;refine wk ?_;refine⟨sB,(k+1,pH),sB,⟨by dsimp only;omega,?_⟩,by dsimp only;omega⟩;dsimp only;rw[bK hlt,dU,<-hx];exact H.sx
 replace H:=H.br 3 1;refine wk ?_;refine aP (S:=Nat×Sl) al [0,1,2,6,7,11,12,13,16,50,63,83] (λk=>[(8,k.2.v),(9,iv k.1)]) (λk w'=>k.1<=l.length/\Rel W V [.row k.2 3 1 (((l.take k.1).map (fK (aH 3))).flatMap fT)] V w') (λk _=>l.length-k.1) (0,⟨none,0,0⟩) ?_;conv=>whnf
 refine⟨sB,⟨aa,H⟩,?_⟩;clear H;rintro⟨k,r8⟩w⟨hk,H⟩;dsimp only at hk H |-;have vR:=(H.cV (i:=0) rfl (λ_=>rfl) ai).len;rw[aW,bg]at vR;by_cases hlt:k<l.length;rotate_left
 ·rw[bJ aa]at H;obtain⟨U,hU⟩:∃U,U=l.map (fK (aH 3)):=⟨_,rfl⟩
  rw[JR,<-hU];rw[<-hU]at H;have jl:U.length=l.length:=by rw[hU,aW]
  rw[<-jl];have e9:∀i:Nat,U[i]?.getD 0<bY (aH 3):=by rw[hU];exact FY _ _
  clear hU;replace H:=H.br 5 1;refine wk ?_;refine aP (S:=Nat×Sl) al [0,1,2,6,7,8,9,10,16,20,28] (λj=>[(11,j.2.v),(12,iv j.1)]) (λj w'=>j.1<=U.length/\Rel W V [.row j.2 5 1 ((oC (aH 3) (cj 3) ch U j.1).flatMap aI),.row r8 3 1 (U.flatMap fT)] V w') (λj _=>U.length-j.1) (0,⟨none,0,0⟩) ?_;conv=>whnf
  refine⟨sB,⟨aa,H⟩,?_⟩;clear H;rintro⟨j,zk⟩w⟨hj,H⟩;dsimp only at hj H |-;by_cases eC:j<U.length;rotate_left
  ·have ej:j=U.length:=aa;rw[ej]at H;refine wk ?_;exact⟨zk,rfl,H.sx⟩
  have S8:=H.cV (i:=1) rfl (λ_=>rfl) ai;obtain⟨q0,e0⟩:=S8.aR (g:=λn:Nat=>iv (n:Int)) (λ_=>rfl) (i:=j) eC;have dF:=IM (aH 3) (cj 3) ch U j;have yl:=(H.cV (i:=0) rfl (λ_=>rfl) ai).len;have MN:=S8.len;have fw:=ET (aH 3) (cj 3) ch U j;have fJ:U[j]?.getD 0=U[j]:=by rw[bz eC];rfl
  have hub:=e9 j;rw[fJ]at hub;obtain⟨O,hO⟩:∃O,O=oC (aH 3) (cj 3) ch U j:=⟨_,rfl⟩
  rw[<-hO]at dF yl fw H;by_cases hdf:ch<=j
  ·obtain⟨q1,e1⟩:=S8.aR (g:=λn:Nat=>iv (n:Int)) (λ_=>rfl) (i:=j-ch) aa;have dO:U[j-ch]?.getD 0=U[j-ch]:=by rw[bz aa];rfl
   have yH:=e9 (j-ch);rw[dO]at yH;have ej:((j:Int)-(ch:Int))=((j-ch:Nat):Int):=aa;obtain⟨a,ha⟩:∃a,a=U[j]:=⟨_,rfl⟩
   obtain⟨b,jD⟩:∃b,b=U[j-ch]:=⟨_,rfl⟩
   rw[<-ha]at e0 hub fJ;rw[<-jD]at e1 yH dO;obtain⟨u,hu⟩:∃u,u=(a+65536-b)%65536:=⟨_,rfl⟩
   rw[show jg (cj 3) ch (bY (aH 3)) U j=u by unfold jg;rw[ag (by exact⟨ai,hdf⟩),fJ,dO,hu];rfl]at fw;have aeP:b<65536:=yH;have aeO:a<65536:=hub;have uI:u<65536:=aa;have ez:((a:Int)-(b:Int)+65536)%65536=(u:Int):=aa;refine wk ?_;rw[ej];refine H.wg ?_;intro _ w H;try rw[ez]at H
   rw[ez];refine wk ?_;refine Rel.bF (f:=aI) (l:=O) (x:=aD (u%256)) rfl (λ_=>rfl) (by simp[Value.oneCell']) (H.cB (ng (n:=u%256) aa (by first|omega|(show(_:Int)%256=_;omega)))) (by simp;omega) (by simp;omega) ?_;intro rn w H;refine H.wg ?_;intro _ w H;refine Rel.bF (f:=aI) (l:=O++[aD (u%256)]) (x:=aD (u/256)) rfl (λ_=>rfl) (by simp[Value.oneCell']) (H.cB (ng (n:=u/256) aa (by first|omega|(show(_:Int)%256=_;omega)))) (by simp;omega) (by simp;omega) ?_;intro rn w H;refine wk ?_;refine⟨sB,(j+1,rn),sB,⟨by dsimp only;omega,?_⟩,by dsimp only;omega⟩;dsimp only;rw[fw];rw[bj]at H;exact H.sx
  obtain⟨u,hu⟩:∃u,u=U[j]:=⟨_,rfl⟩
  rw[<-hu]at e0 hub fJ;rw[show jg (cj 3) ch (bY (aH 3)) U j=u by unfold jg;rw[ae (λh=>hdf h.2),fJ]]at fw;have hub:u<65536:=hub;refine H.wg ?_;intro _ w H;refine Rel.bF (f:=aI) (l:=O) (x:=aD (u%256)) rfl (λ_=>rfl) (by simp[Value.oneCell']) (H.cB (ng (n:=u%256) aa (by first|omega|(show(_:Int)%256=_;omega)))) (by simp;omega) (by simp;omega) ?_;intro rn w H;refine H.wg ?_;intro _ w H;refine Rel.bF (f:=aI) (l:=O++[aD (u%256)]) (x:=aD (u/256)) rfl (λ_=>rfl) (by simp[Value.oneCell']) (H.cB (ng (n:=u/256) aa (by first|omega|(show(_:Int)%256=_;omega)))) (by simp;omega) (by simp;omega) ?_;intro rn w H;refine wk ?_;refine⟨sB,(j+1,rn),sB,⟨by dsimp only;omega,?_⟩,by dsimp only;omega⟩;dsimp only;rw[fw];rw[bj]at H;exact H.sx
 have oq:=hb _ (bS hlt);obtain⟨p0,d0⟩:=hs.aR (g:=iv) (λ_=>rfl) hlt;obtain⟨x,hx⟩:∃x,x=l[k]:=⟨_,rfl⟩
 rw[<-hx]at d0 oq;refine wk ?_;obtain⟨po,jG,uG⟩:=J2 x (m:=65536) ai;refine .inr ⟨aa,?_⟩;obtain⟨t,ht⟩:∃t,t=x.tmod 65536:=⟨_,rfl⟩
 rw[<-ht]at po jG uG |-;refine H.wg ?_;intro _ w H;refine Rel.bF (f:=fT) (l:=(l.take k).map (fK (aH 3))) (x:=fK (aH 3) x) rfl (λ_=>rfl) (bc.1 rfl) (H.cB (c':=fT (fK (aH 3) x)) (ax (λz=>[bO .i64 z]) (by show _=(((x%65536).toNat:Nat):Int);omega))) (by simp;omega) (by simp;omega) ?_;intro pH w H;refine wk ?_;refine⟨sB,(k+1,pH),sB,⟨by dsimp only;omega,?_⟩,by dsimp only;omega⟩;dsimp only;rw[bK hlt,dU,<-hx];exact H.sx
theorem akv(hV:Sub V W){x y:Sl}{a b:bf}(hx:Gl V x a)(hy:Gl V y b)(ha:a.length<=1099511627776):aB 74 [x.v,y.v] W λv w'=>v=.bool (decide (a=b))/\Rel W V [] V w':=by
 have H:=aG hV;have h1:=hx.len;have h2:=hy.len;refine eV Tryz.func74 26 [0,1,4,5,10,14,25] ?_;by_cases hl:a.length=b.length;rotate_left
 ·refine wk ?_;refine⟨?_,H⟩;have:a≠b:=λe=>hl (by rw[e]);simp[this]
 refine wk ?_;refine aP (S:=Nat) al [0,1,10] (λk=>[(5,iv k)]) (λk w'=>k<=a.length/\(∀j,j<k->a[j]?=b[j]?)/\Rel W V [] V w') (λk _=>a.length-k) 0 ?_;conv=>whnf
 refine⟨sB,⟨aa,aa,H⟩,?_⟩;clear H;rintro k w⟨hk,hj,H⟩;by_cases qg:k<a.length
 ·have vQ:k<b.length:=aa;obtain⟨hp,hc⟩:=hx.oa (g:=str) (λ_=>rfl) qg;obtain⟨vU,hc'⟩:=hy.oa (g:=str) (λ_=>rfl) vQ;refine wk ?_;refine dV 6 [] [0,1,2,3,4,5,6,7,8] H ?_;intro w H;refine wk ?_;refine qX (λh5=>?_) (λh5=>?_)
  ·refine wk ?_;refine⟨?_,H⟩;have:a≠b:=by intro e;subst e;exact h5 rfl
   simp[this]
  refine wk ?_;refine⟨sB,k+1,sB,⟨aa,?_,H⟩,aa⟩;intro j hjk;by_cases e:j=k
  ·subst e;simp only[qg,vQ,bz];exact ax some h5
  exact hj j aa
 refine wk ?_;refine⟨?_,H⟩;have:a=b:=zc λj=>by
  by_cases fe:j<k
  ·exact hj j fe
  rw[lO aa,lO aa]
 simp[this]
theorem PO{l:List α}{x:α}(hk:k<l.length)(h1:x∉l.take k)(h2:x≠l[k]):x∉l.take (k+1):=by
 rw[bK hk,cc];rintro(h|h)
 ·exact h1 h
 exact h2 (cz.1 h)
theorem Gv{p:α->Bool}{l:List α}(hk:k<l.length):(l.take (k+1)).any p=((l.take k).any p||p l[k]):=by rw[bK hk,List.any_append];simp
theorem abT(hV:Sub V W){s:Sl}{l:bf}(hs:Gl V s l)(hl:l.length<=1099511627776)(x:ab):aB 328 [s.v,str x] W λv w'=>v=.bool (decide (x∈l))/\Rel W V [] V w':=by
 have key:aB 353 [s.v,str x] W λv w'=>(∃i:Int,v=iv i/\(0<=i↔x∈l))/\Rel W V [] V w':=by
  have H:=aG hV;have hlen:=hs.len;refine eV Tryz.func353 19 [0,1,4,5,7,8,9,16] ?_;refine wk ?_;refine aP (S:=Nat) al [0,1,7] (λk=>[(8,iv k)]) (λk w'=>k<=l.length/\x∉l.take k/\Rel W V [] V w') (λk _=>l.length-k) 0 ?_;conv=>whnf
  refine⟨sB,⟨aa,ah,H⟩,?_⟩;clear H;rintro k w⟨hk,hz,H⟩;by_cases hlt:k<l.length
  ·obtain⟨hp,hc⟩:=hs.oa (g:=str) (λ_=>rfl) hlt;refine wk ?_;refine gj (λh=>?_) (λh=>?_)
   ·refine wk ?_;exact⟨⟨k,rfl,λ_=>by rw[h];exact bS hlt,λ_=>by omega⟩,H.sx⟩
   refine wk ?_;exact⟨sB,k+1,sB,⟨aa,PO hlt hz h,H⟩,aa⟩
  refine wk ?_;refine⟨⟨-1,rfl,λh=>by omega,λh=>?_⟩,H.sx⟩;rw[bJ aa]at hz;exact absurd h hz
 refine eV Tryz.func328 9 [0,1,4] ?_;conv=>whnf
 refine key.use ?_;rintro v w⟨⟨i,rfl,hi⟩,H⟩;conv=>whnf
 exact⟨by simp only[hi],H⟩
theorem abQ(hV:Sub V W){s:Sl}{l:bf}(hs:Gl V s l)(hl:l.length<=1099511627776){g:FuncId}{caps:aC}(p:ab->Bool)
  (hg:∀(x:ab) (w:ad),Sub V w->tF g (str x::caps).toArray w λv w'=>v=.bool (p x)/\Rel w V [] V w') :
  aB 326 [s.v,.func (.func g) #[] caps.toArray] W λv w'=>v=.bool (l.any p)/\Rel W V [] V w':=by
 have key:aB 352 [s.v,.func (.func g) #[] caps.toArray] W λv w'=>(∃i:Int,v=iv i/\(0<=i↔l.any p=true))/\Rel W V [] V w':=by
  have H:=aG hV;have hlen:=hs.len;refine eV Tryz.func352 19 [0,1,4,5,7,8,9,16] ?_;refine wk ?_;refine aP (S:=Nat) al [0,1,7] (λk=>[(8,iv k)]) (λk w'=>k<=l.length/\(l.take k).any p=false/\Rel W V [] V w') (λk _=>l.length-k) 0 ?_;conv=>whnf
  refine⟨sB,⟨aa,ah,H⟩,?_⟩;clear H;rintro k w⟨hk,hz,H⟩;by_cases hlt:k<l.length
  ·obtain⟨hp,hc⟩:=hs.oa (g:=str) (λ_=>rfl) hlt;refine wk ((hg l[k] _ H.data).use ?_);rintro v w⟨rfl,K⟩;replace H:=H.call K;conv=>whnf
   refine Au (λh1=>?_) (λh1=>?_)
   ·refine wk ?_;refine⟨⟨k,rfl,λ_=>?_,λ_=>by omega⟩,H⟩;rw[wF];exact⟨l[k],bS hlt,h1⟩
   refine wk ?_;exact⟨sB,k+1,sB,⟨aa,by rw[Gv hlt,hz,h1];rfl,H⟩,aa⟩
  refine wk ?_;refine⟨⟨-1,rfl,λh=>by omega,λh=>?_⟩,H⟩;rw[bJ aa]at hz;rw[hz]at h;cases h
 refine eV Tryz.func326 9 [0,1,4] ?_;conv=>whnf
 refine key.use ?_;rintro v w⟨⟨i,rfl,hi⟩,H⟩;conv=>whnf
 refine⟨?_,H⟩;simp only[hi];cases l.any p<;>rfl
theorem abS(hV:Sub V W){s:Sl}{l:List Int}(hs:aA bN V s l)(hl:l.length<=1099511627776)(x:Int):aB 239 [s.v,iv x] W λv w'=>v=.bool (decide (x∈l))/\Rel W V [] V w':=by
 have key:aB 283 [s.v,iv x] W λv w'=>(∃i:Int,v=iv i/\(0<=i↔x∈l))/\Rel W V [] V w':=by
  have H:=aG hV;have hlen:=hs.len;refine eV Tryz.func283 19 [0,1,4,5,7,8,9,16] ?_;refine wk ?_;refine aP (S:=Nat) al [0,1,7] (λk=>[(8,iv k)]) (λk w'=>k<=l.length/\x∉l.take k/\Rel W V [] V w') (λk _=>l.length-k) 0 ?_;conv=>whnf
  refine⟨sB,⟨aa,ah,H⟩,?_⟩;clear H;rintro k w⟨hk,hz,H⟩;by_cases hlt:k<l.length
  ·obtain⟨hp,hc⟩:=hs.oa (g:=iv) (λ_=>rfl) hlt;refine wk ?_;refine gj (λh=>?_) (λh=>?_)
   ·refine wk ?_;exact⟨⟨k,rfl,λ_=>by rw[h];exact bS hlt,λ_=>by omega⟩,H.sx⟩
   refine wk ?_;exact⟨sB,k+1,sB,⟨aa,PO hlt hz h,H⟩,aa⟩
  refine wk ?_;refine⟨⟨-1,rfl,λh=>by omega,λh=>?_⟩,H.sx⟩;rw[bJ aa]at hz;exact absurd h hz
 refine eV Tryz.func239 9 [0,1,4] ?_;conv=>whnf
 refine key.use ?_;rintro v w⟨⟨i,rfl,hi⟩,H⟩;conv=>whnf
 exact⟨by simp only[hi],H⟩
theorem xW(hV:Sub V W){b:Nat}{k:Int}(hb:V.cell? ⟨b,0,none⟩=some (iv k)){s:Sl}{l:List Int}(hs:aA bN V s l)(hl:l.length<=1099511627776){p:Prop}[Decidable p](hp:p↔k∈l) :
  aB 325 [s.v,.pointer (some ⟨b,0,none⟩)] W λv w'=>v=.bool (decide p)/\Rel W V [] V w':=by
 have H:=aG hV;refine eV Tryz.func325 8 [0,1,3] ?_;refine wk ((abS H.data hs hl k).use ?_);rintro v w⟨rfl,K⟩;replace H:=H.call K;refine wk ?_;exact⟨by simp only[hp],H⟩
theorem agF(hV:Sub V W)(s:ab):aB 327 [str s] W λv w'=>v=.bool (!cX s)/\Rel W V [] V w':=by have H:=aG hV;refine eV Tryz.func327 6 [0,2] ?_;refine wk ((VI H.data s).use ?_);rintro v w⟨rfl,K⟩;replace H:=H.call K;refine wk ?_;exact H
theorem abo(hV:Sub V W){h:VH}{v:ao}(hv:cb V h v)(hB:VB 1099511627776 v):aB 307 [gw h] W λr w'=>r=iv (dP v)/\Rel W V [] V w':=by
 have H:=aG hV;have e1:=hv.kind;have e2:=hv.num;have l1:=hv.bytes.len;have l2:=hv.names.len;have l3:=hv.uW;have hns:=hv.names;have hnl:=hB.names;have hnc:=hns.cap;obtain⟨k,n,bs,ss,pl⟩:=h;dsimp only at e1 e2 l1 l2 l3 hns hnc;subst e1 e2;refine nX al Tryz.func307 rfl av 88 rfl ah [0,1,2,3,4,5,7,12,64,69,74,75,76,77,86] ?_;refine aM.cA al ?_;refine H.wn ?_;intro w b1 H;refine wk ?_;obtain⟨V1,hV1,H,hb1⟩:=H.cU;have hc1:∀j u,[iv v.kind,iv v.num,bs.v,ss.v,pl.v][j]?=some u->V1.cell? ⟨b1,0+j,none⟩=some u:=λj u hj=>by rw[dR];exact hb1.cS hj
 have hk0:V1.cell? ⟨b1,0,none⟩=some (iv v.kind):=hb1.cS rfl;replace hns:=hns.up hV1;have H0:=H;replace H:=aG H.data;refine aM.cA al ?_;refine wk ?_;refine aM.lq al (λ_:Unit=>[(1,.pointer (some ⟨b1,0,none⟩))]) (λ_ w'=>((1<=v.kind/\v.kind<=4)/\¬jA v/\v.parts.length<=600/\v.names.any (λs=>!cX s)=false)/\Rel w V1 [] V1 w') ?_ ?_
 ·have n5:¬(1<=v.kind/\v.kind<=4)->dP v=5:=λh=>by rw[dP,ag h]
  have n6:(1<=v.kind/\v.kind<=4)->jA v->dP v=6:=λh h2=>by rw[dP,ae aa,ag h2]
  have n14:(1<=v.kind/\v.kind<=4)->¬jA v->600<v.parts.length->dP v=14:=λh h2 h3=>by rw[dP,ae aa,ae h2,ag h3]
  have n7:(1<=v.kind/\v.kind<=4)->¬jA v->¬600<v.parts.length->v.names.any (λs=>!cX s)=true->dP v=7:=λh h2 h3 h4=>by rw[dP,ae aa,ae h2,ae h3,ag h4]
  refine wk ?_;by_cases hr:1<=v.kind/\v.kind<=4;rotate_left
  ·refine H.nA ?_;intro w bh H;obtain⟨V2,hV2,H,pb⟩:=H.cU;refine wk ?_;refine H.us (xW (s:=⟨some ⟨bh,0,none⟩,4,4⟩) (l:=[1,2,3,4]) (p:=1<=v.kind/\v.kind<=4) H.data (hV2.cell hk0) ⟨rfl,aQ _,pb.cells⟩ ai (by simp;try omega)) ?_;intro w H;replace H:=H.back;refine wk ?_;exact⟨by rw[n5 hr],(H0.call H).back⟩
  refine H.nA ?_;intro w bh H;obtain⟨V2,hV2,H,pb⟩:=H.cU;refine wk ?_;refine H.us (xW (s:=⟨some ⟨bh,0,none⟩,4,4⟩) (l:=[1,2,3,4]) (p:=1<=v.kind/\v.kind<=4) H.data (hV2.cell hk0) ⟨rfl,aQ _,pb.cells⟩ ai (by simp;try omega)) ?_;intro w H;replace H:=H.back;refine wk ?_;have n6:=n6 hr;have n14:=n14 hr;have n7:=n7 hr;unfold jA at n6 n14 n7 |-;by_cases a1:v.num=0;all_goals by_cases k1:v.kind=1
  all_goals
   refine wk ?_
   try(
    refine H.nA ?_;intro w bh H
    obtain⟨V2,hV2,H,pb⟩:=H.cU
    refine wk ?_
    refine H.us (xW (s:=⟨some ⟨bh,0,none⟩,1,1⟩) (l:=[1]) (p:=v.kind=1) H.data (hV2.cell hk0) ⟨rfl,aQ _,pb.cells⟩ ai (by simp;try omega)) ?_
    clear H
    intro w H
    replace H:=H.back
    refine wk ?_
    try exact⟨by rw[n6 aa],(H0.call H).back⟩)
  all_goals by_cases a2:v.bytes.length=0
  all_goals by_cases k2:v.kind=2
  all_goals first|(exfalso;omega)|skip
  all_goals
   refine wk ?_
   try(
    refine H.nA ?_;intro w bh H
    obtain⟨V2,hV2,H,pb⟩:=H.cU
    refine wk ?_
    refine H.us (xW (s:=⟨some ⟨bh,0,none⟩,1,1⟩) (l:=[2]) (p:=v.kind=2) H.data (hV2.cell hk0) ⟨rfl,aQ _,pb.cells⟩ ai (by simp;try omega)) ?_
    clear H
    intro w H
    replace H:=H.back
    refine wk ?_
    try exact⟨by rw[n6 aa],(H0.call H).back⟩)
  all_goals by_cases a3:v.names.length=0
  all_goals by_cases k4:v.kind=4
  all_goals first|(exfalso;omega)|skip
  all_goals
   refine wk ?_
   try(
    refine H.nA ?_;intro w bh H
    obtain⟨V2,hV2,H,pb⟩:=H.cU
    refine wk ?_
    refine H.us (xW (s:=⟨some ⟨bh,0,none⟩,1,1⟩) (l:=[4]) (p:=v.kind=4) H.data (hV2.cell hk0) ⟨rfl,aQ _,pb.cells⟩ ai (by simp;try omega)) ?_
    clear H
    intro w H
    replace H:=H.back
    refine wk ?_
    try exact⟨by rw[n6 aa],(H0.call H).back⟩)
  all_goals by_cases a4:v.parts.length=0
  all_goals
   refine wk ?_
   try(
    refine H.nA ?_;intro w bh H
    obtain⟨V2,hV2,H,pb⟩:=H.cU
    refine wk ?_
    refine H.us (xW (s:=⟨some ⟨bh,0,none⟩,2,2⟩) (l:=[3,4]) (p:=3<=v.kind) H.data (hV2.cell hk0) ⟨rfl,aQ _,pb.cells⟩ ai (by simp;try omega)) ?_
    clear H
    intro w H
    replace H:=H.back
    refine wk ?_
    try exact⟨by rw[n6 aa],(H0.call H).back⟩)
  all_goals by_cases a5:v.names.length=v.parts.length
  all_goals first|(exfalso;omega)|skip
  all_goals
   refine H.wn ?_;intro w bh H;obtain⟨V2,hV2,H,pb⟩:=H.cU;refine wk ?_;refine H.us (xW (s:=⟨some ⟨bh,0,none⟩,1,1⟩) (l:=[4]) (p:=v.kind=4) H.data (hV2.cell hk0) ⟨rfl,aQ _,pb.cells⟩ ai (by simp;try omega)) ?_;intro w H;replace H:=H.back;refine wk ?_;try exact⟨by rw[n6 aa],(H0.call H).back⟩
  all_goals by_cases a6:600<v.parts.length
  all_goals first|(exfalso;omega)|skip
  all_goals
   refine wk ?_;try exact⟨by rw[n14 aa a6],(H0.call H).back⟩
  all_goals
   refine H.us (abQ H.data hns hnl (λs=>!cX s) (λx w hw=>agF hw x)) ?_;intro w H;refine wk ?_;refine Au (λh1=>?_) (λh1=>?_)
   ·refine wk ?_;exact⟨by rw[n7 aa a6 h1],(H0.call H).back⟩
   refine wk ?_;exact⟨(),sB,⟨aa,aa,aa,h1⟩,H⟩
 clear H;rintro _ w⟨⟨hr,hf,vH,Mn⟩,H⟩;have DH:dP v=if v.names.Nodup then 0 else 8:=by
  rw[dP,ae aa,ae hf,ae aa,ae (by rw[Mn];simp)];by_cases hn:v.names.Nodup
  ·rw[ae (by simpa using hn),ag hn]
  rw[ag hn,ae hn]
 replace H:Rel W V [] V1 w:=H0.call H;refine aM.cA al ?_;refine wk ?_;refine aP (S:=Nat) al [0,1,3,7,12,64,69,74,75] (λk=>[(76,iv k)]) (λk w'=>k<=v.names.length/\(v.names.take k).Nodup/\Rel W V [] V1 w') (λk _=>v.names.length-k) 0 ?_;conv=>whnf
 refine⟨sB,⟨aa,ah,H⟩,?_⟩;clear H;rintro k w⟨hk,hz,H⟩;by_cases hlt:k<v.names.length;rotate_left
 ·rw[bJ aa]at hz;refine wk ?_;refine aM.go al ?_;refine wk ?_;exact⟨by rw[DH,ag hz],H.back⟩
 obtain⟨hp,hc⟩:=hns.oa (g:=str) (λ_=>rfl) hlt;refine wk ?_;refine H.us (abT H.data (hns.abZ (n:=1) (λ_=>rfl) (b:=k) aa) (by simp;omega) v.names[k]) ?_;intro w H;refine gj (λh5=>?_) (λh5=>?_)
 ·refine wk ?_;refine⟨?_,H.back⟩;rw[DH,ae];intro hn;have h6:=hn.sublist (List.take_sublist (k+1) v.names);rw[bK hlt,rZ]at h6;exact h6.2.2 _ h5 _ ah rfl
 refine wk ?_;refine⟨sB,k+1,sB,⟨aa,?_,H⟩,aa⟩;rw[bK hlt,rZ];exact⟨hz,ah,λa ha b hb=>by rw[cz.1 hb];exact λe=>h5 (e▸ha)⟩
theorem Lv(hV:Sub V W)(c i:Int):aB 268 [iv c,iv i] W λv w'=>v=kV c i/\Rel W V [] V w':=by have H:=aG hV;refine eV Tryz.func268 8 [0,1,4] ?_;refine H.wg ?_;intro _ _ w H;exact H.sx
def abt(r:Except (Int×Int) Nat)(v:aj):Prop:=match r with
 | .ok m=>v=.tuple #[iv m,kV 0 0]
 | .error e=>v=.tuple #[iv 0,kV e.1 e.2]/\e.1≠0
theorem Pp:∀ {l:List (ao×Nat)} {n:Nat} {e:Int×Int},scan l n=.error e->e.1≠0
 | [],n,e,h=>by simp[scan]at h
 | (v,d)::l,n,e,h=>by
  simp only[scan]at h;split at h
  ·rename_i h1;cases h;exact h1
  exact Pp h
theorem abv{v:ao}(h:gz d v n=.ok m):n<m:=by obtain⟨h1,_⟩:=Ce _ _ _ h;rw[wB]at h1;simp at h1;omega
theorem KS{v:ao}(h:gz d v n=.ok m):m<=600:=by
 obtain⟨h1,h2⟩:=Ce _ _ _ h;rcases Nat.lt_or_ge 600 m with h3|h3
 ·have h0:=abv h;have h4:m-1-n<(pre d v).length:=aa;have h5:=h2 (m-1-n) ((pre d v)[m-1-n]).1 ((pre d v)[m-1-n]).2 (by rw[bz h4]);unfold gy at h5;rw[ag aa]at h5;cases h5
 exact h3
theorem abp:∀(N:Nat) {V W:ad},Sub V W->∀ {h:VH} {v:ao} {n d:Nat},SizeOf.sizeOf v<N->cb V h v->VB 1099511627776 v->n<=1000->d<=1000 ->
  aB 266 [gw h,iv n,iv (d+1)] W λr w'=>abt (gz d v n) r/\Rel W V [] V w':=by
 intro N;induction N with
 | zero=>intro V W _ h v n d hs;omega
 | succ N ih =>
  intro V W hV h v n d hs hv hB hn hd;have H:=aG hV;have l3:=hv.uW;have hpl:=hB.parts;have e0:=xw d v n;refine eV Tryz.func266 52 [0,1,2,3,6,7,8,9,11,12,18,24,31,32,33,34,47] ?_;refine H.wn ?_;intro w b3 H;refine H.wn ?_;intro w b7 H;by_cases gb:600<=n\/10<=d
  ·have e1:gz d v n=.error (2,n):=by rw[e0,ag (by rw[gy,ag gb];decide),gy,ag gb]
   rw[e1];by_cases hn6:600<=n
   all_goals
    refine wk (H.us (Lv H.data 2 n) ?_);intro w H;refine H.wg ?_;intro w H;exact⟨⟨rfl,by show(2:Int)≠0;decide⟩,H.sx⟩
  refine wk (H.us (abo H.data hv hB) ?_);intro w H;have e1:gy v n d=dP v:=by rw[gy,ae gb]
  rw[e1]at e0;by_cases hz:dP v=0;rotate_left
  ·rw[ag hz]at e0;rw[e0];refine wk (H.us (Lv H.data (dP v) n) ?_);intro w H;refine H.wg ?_;intro w H;exact⟨⟨rfl,hz⟩,H.sx⟩
  rw[ae (λh=>h hz)]at e0;obtain⟨_,_,vH,_⟩:=Bq hz;refine wk ?_;refine aP (S:=Nat×Nat) al [0,1,2,3,7,8,18,24,31,32] (λk=>[(9,iv k.2),(33,iv k.1)]) (λk w'=>k.1<=v.parts.length/\oY (d+1) (v.parts.take k.1) (n+1)=.ok k.2/\k.2<=601/\Rel W V [.ay b7 [iv 0,iv 0] 31,.ay b3 (a8 h) 27] V w') (λk _=>v.parts.length-k.1) (0,n+1) ?_;conv=>whnf
  refine⟨sB,⟨aa,rfl,aa,H.sx⟩,?_⟩;clear H;rintro⟨k,m⟩w⟨hk,s8,hm,H⟩;dsimp only at hk s8 hm H;by_cases hlt:k<v.parts.length;rotate_left
  ·rw[bJ aa]at s8;refine H.wg ?_;intro w H;rw[e0,s8];exact⟨rfl,H.sx⟩
  obtain⟨hp,x,hx,q0,q1,q2,q3,q4⟩:=hv.wu hlt;have hmem:=bS hlt;have HD:oY (d+1) (v.parts.take (k+1)) (n+1)=gz (d+1) v.parts[k] m:=by rw[bK hlt,abr,s8]
  have hall:∀e,gz (d+1) v.parts[k] m=.error e->oY (d+1) v.parts (n+1)=.error e:=by intro e he;rw[he]at HD;unfold oY at HD |-;conv=>lhs;rw[<-eW (k+1) v.parts,cw,zq,HD]
  refine H.wn ?_;intro w KG H;refine H.wh ?_;intro w H;refine H.nA ?_;intro w ud H;refine wk ?_;refine(ih H.data (n:=m) (d:=d+1) (by have:=ao.wA hmem;omega) hx (hB.part _ hmem) aa aa).use ?_;rintro r w⟨hr,K⟩;replace H:=H.bd K;cases hq:gz (d+1) v.parts[k] m with
  | ok m' =>rw[hq]at hr;have hr:r=.tuple #[iv m',kV 0 0]:=hr;subst hr;have:=KS hq;refine H.wg ?_;intro w H;exact⟨sB,(k+1,m'),sB,⟨aa,by rw[HD,hq],aa,H.sx⟩,by dsimp only;omega⟩
  | error e =>rw[hq]at hr;obtain⟨rfl,hne⟩:=hr;have:=hall e hq;rw[e0,this];refine H.wg ?_;intro w H;refine dV 13 [] [0,1,2] H ?_;intro w H;refine H.wg ?_;intro w H;exact⟨⟨rfl,hne⟩,H.sx⟩
theorem acw(k:Int)(s:bf)(a b:List ao):mE k s (a++b)=mE k s a++(b.zipIdx a.length).flatMap λp=>(if k=4 then eh (s.getD p.2 [])else[])++enc p.1:=by unfold mE;rw[List.zipIdx_append,cw];simp
theorem acx(k:Int)(s:bf)(ps:List ao)(i:Nat):(mE k s (ps.take i)).length<=(mE k s ps).length:=by
 conv=>rhs;rw[<-eW i ps,acw,ak]
 omega
theorem acD{k:Int}{s:bf}{ps:List ao}(hi:i<ps.length):(mE k s (ps.take i)).length+(((if k=4 then eh (s.getD i [])else[]):ab).length+(enc ps[i]).length)<=(mE k s ps).length:=by have:=acx k s ps (i+1);rw[bK hi,SC]at this;simp only[ak,bg]at this;rw[show min i ps.length=i by omega]at this;exact this
theorem acJ:∀(N:Nat) {V W:ad},Sub V W->∀ {h:VH} {v:ao} {n d m:Nat},SizeOf.sizeOf v<N->cb V h v->VB 1048576 v->gz d v n=.ok m->(enc v).length<=1099511627000 ->
  aB 267 [gw h] W λq w'=>∃r:Sl,q=r.v/\Rel W V [.row r 5 1 ((enc v).flatMap aI)] V w':=by
 intro N;induction N with
 | zero=>intro V W _ h v n d m hs;omega
 | succ N ih =>
  intro V W hV h v n d m hs hv hB hok hlen;have H:=aG hV;have l3:=hv.uW;have hpl:=hB.parts;have hbl:=hB.bytes;have hns:=hv.names;have yr:=hB.num;have ML:=hB.kind;obtain⟨_,_,hr,hf,vH,hna,_,hpo⟩:=KR hok;have he:=Ay v;have hel:=ax bU he;have e1:=hv.kind;have e2:=hv.num;obtain⟨hk,hn,bs,ss,pl⟩:=h;have l2:=hns.len;dsimp only at e1 e2 l2 l3 hns;subst e1 e2;have l6:=hv.bytes;have p1:=dq ML.1 ML.2;change aB 267 [.agg [iv v.kind,iv v.num,bs.v,ss.v,pl.v].toArray] W _;refine eV Tryz.func267 57 [0,1,2,3,4,5,10,11,18,32,33,34,35,41] ?_;refine H.wn ?_;intro w b1 H;refine wk ((jW (n:=v.kind) H.data ML).use ?_);rintro q w⟨r,rfl,K⟩;replace H:=H.cq K;by_cases k1:v.kind=1
  ·rw[ag k1]at he hel;simp only[ak]at hel;refine wk ((jW (n:=v.num) H.data yr).use ?_);rintro q w⟨r1,rfl,K⟩;replace H:=H.cq K;refine wk ?_;refine Rel.eB H (i:=0) rfl aa ?_;intro rn w H;refine wk ?_;exact⟨rn,rfl,by rw[he];exact H.sx⟩
  rw[ae k1]at he hel;by_cases k2:v.kind=2
  ·rw[ag k2]at he hel;simp only[ak]at hel;refine wk ?_;refine(Aq H.data l6 aa).use ?_;rintro q w⟨r1,rfl,K⟩;replace H:=H.cq K;refine wk ?_;refine Rel.eB H (i:=0) rfl aa ?_;intro rn w H;refine wk ?_;exact⟨rn,rfl,by rw[he];exact H.sx⟩
  rw[ae k2,<-bj]at he;rw[ae k2]at hel;simp only[ak]at hel;refine wk ?_;rw[l3];refine(jW (n:=v.parts.length) H.data (by constructor<;>omega)).use ?_;rintro q w⟨r1,rfl,K⟩;replace H:=H.cq K;refine wk ?_;refine Rel.eB H (i:=0) rfl aa ?_;intro r w H;refine wk ?_;refine aP (S:=Nat×Sl) al [0,1,2,10,11,18,32,33] (λk=>[(3,k.2.v),(34,iv k.1)]) (λk w'=>k.1<=v.parts.length/\Rel W V [.row k.2 5 1 ((az v.kind++az v.parts.length++mE v.kind v.names (v.parts.take k.1)).flatMap aI),.ay b1 [iv v.kind,iv v.num,bs.v,ss.v,pl.v] 27] V w') (λk _=>v.parts.length-k.1) (0,r) ?_;conv=>whnf
  refine⟨sB,⟨aa,by simp only[List.take_zero,acy,aZ];exact H⟩,?_⟩;clear H;rintro⟨k,r⟩w⟨hk,H⟩;dsimp only at hk H;by_cases hlt:k<v.parts.length;rotate_left
  ·rw[bJ aa,<-he]at H;refine wk ?_;exact⟨r,rfl,H.sx⟩
  obtain⟨hp,x,hx,q0,q1,q2,q3,q4⟩:=hv.wu hlt;have hmem:=bS hlt;have hle:=acD (k:=v.kind) (s:=v.names) hlt;obtain⟨a',m',hsub⟩:=Ao hpo _ hmem;have ff:=SC v.kind v.names (v.parts.take k) v.parts[k];rw[<-bK hlt,bg,show min k v.parts.length=k by omega]at ff;refine H.wn ?_;intro w b5 H;by_cases k4:v.kind=4
  ·rw[ag k4]at ff hle;unfold jA at hf;have uB:k<v.names.length:=aa;obtain⟨vU,D6⟩:=hns.oa (g:=str) (λ_=>rfl) uB;have hnl:=EH (hna _ (bS uB));have yg:v.names.getD k []=v.names[k]:=by simp[List.getD,uB]
   rw[yg]at ff hle;refine H.wg ?_;intro w H;refine Rel.Ru Tryz.underlying9 Tryz.underlying22 Tryz.underlying5 H v.names[k] ?_;intro V1 s1 w he hV1 hs1 H;refine wk ?_;refine(Aq H.data hs1 aa).use ?_;rintro q w⟨r1,rfl,K⟩;replace H:=H.cq K;replace H:=H.back;refine wk ?_;refine Rel.eB H (i:=1) rfl (by simp only[ak];omega) ?_;intro r w H;refine wk ?_;refine(ih H.data (by have:=ao.wA hmem;omega) hx (hB.part _ hmem) hsub aa).use ?_;rintro q w⟨r1,rfl,K⟩;replace H:=H.cq K;refine wk ?_;refine Rel.eB H (i:=1) rfl (by simp only[ak];omega) ?_;intro r w H;refine wk ?_;refine⟨sB,(k+1,r),sB,⟨aa,?_⟩,by dsimp only;omega⟩;dsimp only;rw[ff];simp only[bj]at H |-;exact H.sx
  rw[ae k4]at ff hle;refine H.wg ?_;intro w H;refine(ih H.data (by have:=ao.wA hmem;omega) hx (hB.part _ hmem) hsub aa).use ?_;rintro q w⟨r1,rfl,K⟩;replace H:=H.cq K;refine wk ?_;refine Rel.eB H (i:=1) rfl (by simp only[ak];omega) ?_;intro r w H;refine wk ?_;refine⟨sB,(k+1,r),sB,⟨aa,?_⟩,by dsimp only;omega⟩;dsimp only;rw[ff];simp only[bj,aL]at H |-;exact H.sx
theorem WI(v:ao):∀ {d:Nat},VB B v->∀p∈pre d v,VB B p.1:=by
 induction v using(measure (λv:ao=>SizeOf.sizeOf v)).wf.induction with
 | _ v ih =>
  intro d hB p hp;rw[wB]at hp;rcases bP.1 hp with rfl|hp
  ·exact hB
  split at hp
  ·simp at hp
  obtain⟨q,hq,hp⟩:=List.mem_flatMap.1 hp;have hq:=nG hq;exact ih q (ao.wA hq) (hB.part q hq) p hp
theorem agx{l:bf}(h:∀s∈l,cX s=true):(l.map λs=>1+s.length).sum<=l.length*33:=by
 induction l with
 | nil=>simp
 | cons s l ih =>have h1:=EH (h s ah);have h2:=ih λx hx=>h x (by simp[hx]);simp only[fO,qy,aq];omega
theorem VN{v:ao}(hB:VB 1048576 v)(h:dP v=0):rP v<=1100000:=by
 obtain⟨h1,h2,h3,h4,_⟩:=Bq h;have hn:=hB.num;have hb:=hB.bytes;unfold jA at h2;have a1:=dq hn.1 hn.2;have a2:=dq (n:=v.bytes.length) aa aa;have a3:=dq (n:=v.parts.length) aa aa;have a4:=agx h4;unfold rP;split
 ·omega
 split
 ·rw[eh,ak];omega
 have:v.names.length<=600:=aa;have:=kr 33 this;omega
theorem akz{l:List (ao×Nat)}(h:∀p∈l,rP p.1<=1100000):lS l<=l.length*1100000:=by
 induction l with
 | nil=>simp[lS]
 | cons p l ih =>have h1:=h p ah;have h2:=ih λq hq=>h q (by simp[hq]);simp only[lS,fO,qy,aq]at h2 |-;omega
theorem acF{v:ao}(hB:VB 1048576 v)(h:gz d v n=.ok m):(enc v).length<=1000000000:=by
 rw[SD v h];obtain⟨h1,h2⟩:=Ce _ _ _ h;have h3:=KS h;have:=akz (l:=pre d v) λp hp=>by
  obtain⟨i,hi,rfl⟩:=W7 hp;refine VN (WI v hB _ (bS hi)) ?_;have:=h2 i _ _ (bz hi);unfold gy at this;split at this
  ·cases this
  exact this
 have h4:(pre d v).length<=600:=aa;have:=kr 1100000 h4;omega
theorem zO{v:ao}(h:(ct v).1=0):ct v=(0,0):=by
 unfold ct at h |-;split at h
 ·rename_i e he;exact absurd h (Pp he)
 split at h
 ·cases h
 rename_i h1;rw[ae h1]
theorem acH(hV:Sub V W){h:VH}{v:ao}(hv:cb V h v)(hB:VB 1048576 v):aB 199 [gw h] W λq w'=>∃(V':ad) (r:Sl),Sub V V'/\Rel W V [] V' w'/\q=.tuple #[r.v,kV (ct v).1 (ct v).2]/\((ct v).1≠0/\r=⟨none,0,0⟩\/(ct v).1=0/\aF V' r (enc v)):=by
 have H:=aG hV;refine eV Tryz.func199 24 [0,1,2,3,5,6,14,20] ?_;refine H.wn ?_;intro w b1 H;refine H.wn ?_;intro w b3 H;refine wk ?_;refine(abp (SizeOf.sizeOf v+1) (n:=0) (d:=0) H.data (sj _) hv (hB.mono aa) aa aa).use ?_;rintro q w⟨hq,K⟩;replace H:=H.bd K;cases hc:gz 0 v 0 with
 | error e =>
  rw[hc]at hq;obtain⟨rfl,hne⟩:=hq;have hvf:ct v=e:=by rw[ct,hc]
  rw[hvf];refine H.wn ?_;intro w b5 H;refine H.wg ?_;intro w H;refine dV 3 [] [0,1,2] H ?_;intro w H;refine H.wg ?_;intro w H;exact⟨V,⟨none,0,0⟩,aS _,H.sx,rfl,.inl ⟨hne,rfl⟩⟩
 | ok m =>
  rw[hc]at hq;have hq:q=.tuple #[iv m,kV 0 0]:=hq;subst hq;have yD:=acF hB hc;refine H.wn ?_;intro w b5 H;refine H.wg ?_;intro w H;refine(acJ (SizeOf.sizeOf v+1) H.data (sj _) hv hB hc aa).use ?_;rintro q w⟨r,rfl,K⟩;replace H:=H.cq K;obtain⟨V2,hV2,H,hr⟩:=Rel.aJ H;have hrl:=hr.len;by_cases h4:4000<(enc v).length
  ·have hvf:ct v=(14, -1):=by rw[ct,hc];simp only;rw[ag h4]
   rw[hvf];refine wk (H.us (Lv H.data 14 (-1)) ?_);intro w H;refine H.wg ?_;intro w H;exact⟨V2,⟨none,0,0⟩,hV2,H.sx,rfl,.inl ⟨by show(14:Int)≠0;decide,rfl⟩⟩
  have hvf:ct v=(0,0):=by rw[ct,hc];simp only;rw[ae h4]
  rw[hvf];refine H.wg ?_;intro w H;exact⟨V2,r,hV2,H.sx,rfl,.inr ⟨rfl,hr⟩⟩
theorem Ct(hV:Sub V W){h:VH}{v:ao}(hv:cb V h v)(hB:VB 1048576 v):aB 124 [gw h] W λq w'=>q=kV (ct v).1 (ct v).2/\Rel W V [] V w':=by have H:=aG hV;refine eV Tryz.func124 11 [0,1,2,4] ?_;refine H.wn ?_;intro w b1 H;refine H.wn ?_;intro w b2 H;refine wk ((acH H.data hv hB).use ?_);rintro q w⟨V2,r,hV2,K,rfl,_⟩;replace H:=H.bd K;refine H.wn ?_;intro w b4 H;refine H.wg ?_;intro _ w H;exact Rel.back H.sx
noncomputable instance:DecidableEq ao:=λa b=>Classical.propDecidable (a=b)
theorem ao.ext{a b:ao}(h1:a.kind=b.kind)(h2:a.num=b.num)(h3:a.bytes=b.bytes)(h4:a.names=b.names)(h5:a.parts=b.parts):a=b:=by cases a;cases b;simp only[ao.kind,ao.num,ao.bytes,ao.names,ao.parts]at h1 h2 h3 h4 h5;subst h1 h2 h3 h4 h5;rfl
theorem ajN:∀(N:Nat) {V W:ad},Sub V W->∀ {h h':VH} {a b:ao},SizeOf.sizeOf a<N->cb V h a->cb V h' b->VB 1099511627776 a ->
  aB 24 [gw h,gw h'] W λq w'=>∃r:Bool,q=.bool r/\(r=true↔a=b)/\Rel W V [] V w':=by
 intro N;induction N with
 | zero=>intro V W _ h h' a b hs;omega
 | succ N ih =>
  intro V W hV h h' a b hs ha hb hB;have H:=aG hV;have l3:=ha.uW;have l3':=hb.uW;have hpl:=hB.parts;have hnl:=hB.names;have e1:=ha.kind;have e2:=ha.num;have f1:=hb.kind;have f2:=hb.num;have hns:=ha.names;have Uw:=hb.names;have l6:=ha.bytes;have TR:=hb.bytes;obtain⟨hk,hn,bs,ss,pl⟩:=h;obtain⟨hk',hn',Rb,Yo,WC⟩:=h';dsimp only at e1 e2 l3 hns l6 f1 f2 l3' Uw TR;subst e1 e2 f1 f2;change aB 24 [.agg [iv a.kind,iv a.num,bs.v,ss.v,pl.v].toArray,.agg [iv b.kind,iv b.num,Rb.v,Yo.v,WC.v].toArray] W _;refine eV Tryz.func24 62 [0,1,2,3,4,5,42,47,61] ?_;refine H.wn ?_;intro w b2 H;refine H.wn ?_;intro w b3 H;by_cases c1:a.kind=b.kind;rotate_left
  ·refine wk ?_;exact⟨false,rfl,⟨λh=>(by cases h),λh=>absurd (by rw[h]) c1⟩,H.sx⟩
  by_cases c2:a.num=b.num;rotate_left
  ·refine wk ?_;exact⟨false,rfl,⟨λh=>(by cases h),λh=>absurd (by rw[h]) c2⟩,H.sx⟩
  refine wk (H.us (CR H.data l6 TR) ?_);intro w H;by_cases c3:a.bytes=b.bytes;rotate_left
  ·rw[bA c3];refine wk ?_;exact⟨false,rfl,⟨λh=>(by cases h),λh=>absurd (by rw[h]) c3⟩,H.sx⟩
  rw[bw c3];refine wk (H.us (akv H.data hns Uw hnl) ?_);intro w H;by_cases c4:a.names=b.names;rotate_left
  ·rw[bA c4];refine wk ?_;exact⟨false,rfl,⟨λh=>(by cases h),λh=>absurd (by rw[h]) c4⟩,H.sx⟩
  rw[bw c4];by_cases c5:a.parts.length=b.parts.length;rotate_left
  ·refine wk ?_;exact⟨false,rfl,⟨λh=>(by cases h),λh=>absurd (by rw[h]) c5⟩,H.sx⟩
  refine wk ?_;refine aP (S:=Nat) al [0,1,2,3,42] (λk=>[(5,iv k)]) (λk w'=>k<=a.parts.length/\a.parts.take k=b.parts.take k/\Rel W V [.ay b3 [iv b.kind,iv b.num,Rb.v,Yo.v,WC.v] 27,.ay b2 [iv a.kind,iv a.num,bs.v,ss.v,pl.v] 27] V w') (λk _=>a.parts.length-k) 0 ?_;conv=>whnf
  refine⟨sB,⟨aa,rfl,H.sx⟩,?_⟩;clear H;rintro k w⟨hk,hz,H⟩;by_cases hlt:k<a.parts.length;rotate_left
  ·rw[bJ aa,bJ aa]at hz;refine wk ?_;exact⟨true,rfl,⟨λ_=>ao.ext c1 c2 c3 c4 hz,λ_=>rfl⟩,H.sx⟩
  have mJ:k<b.parts.length:=aa;obtain⟨hp,x,hx,q0,q1,q2,q3,q4⟩:=ha.wu hlt;obtain⟨vU,x',yJ,q0',q1',q2',q3',q4'⟩:=hb.wu mJ;have hmem:=bS hlt;refine wk ?_;refine dV 6 [] [0,1,2,3,4,5,6,7,8,9,10,11] H ?_;intro w H;refine wk ?_;refine(ih H.data (by have:=ao.wA hmem;omega) hx yJ (hB.part _ hmem)).use ?_;rintro q w⟨r,rfl,hr,K⟩;replace H:=H.bd K;cases r with
  | false =>
   have hne:¬a.parts[k]=b.parts[k]:=λh=>by have:=hr.2 h;cases this
   refine wk ?_;refine⟨false,rfl,⟨λh=>(by cases h),λh=>absurd ?_ hne⟩,H.sx⟩;subst h;rfl
  | true =>have he:=hr.1 rfl;refine wk ?_;refine⟨sB,k+1,sB,⟨aa,?_,H.sx⟩,aa⟩;rw[bK hlt,bK mJ,hz,he]
theorem agD(hV:Sub V W){h:VH}{v:ao}(hv:cb V h v)(hB:VB 1048576 v)(hz:dP v=0):aB 107 [gw h] W λq w'=>q=iv (oB v)/\Rel W V [] V w':=by
 have H:=aG hV;have l3:=hv.uW;have e1:=hv.kind;have e2:=hv.num;have hns:=hv.names;have l6:=hv.bytes;have l2:=hns.len;have l1:=l6.len;obtain⟨hr,hf,vH,hna,_⟩:=Bq hz;unfold jA at hf;have yr:=hB.num;have hbl:=hB.bytes;obtain⟨hk,hn,bs,ss,pl⟩:=h;dsimp only at e1 e2 l1 l2 l3 hns l6;subst e1 e2;change aB 107 [.agg [iv v.kind,iv v.num,bs.v,ss.v,pl.v].toArray] W _;have F:oB v=_:=oB.eq_1 v;refine eV Tryz.func107 48 [0,1,2,3,4,7,15,19,35] ?_;refine H.wn ?_;intro w b1 H;by_cases k1:v.kind=1
 ·rw[ag k1]at F;refine wk ((iR (n:=v.num) H.data yr).use ?_);rintro q w⟨r,rfl,K⟩;replace H:=H.cq K;have hrl:=H.dW (i:=0) rfl (λ_=>rfl) ai;have hp:=dq yr.1 yr.2;refine wk ?_;refine⟨?_,H.sx⟩;rw[F,hrl];rfl
 rw[ae k1]at F;by_cases k2:v.kind=2
 ·rw[ag k2]at F;by_cases h4:4000<v.bytes.length
  ·rw[ag h4]at F;refine wk ?_;rw[F];exact⟨rfl,H.sx⟩
  rw[ae h4]at F;have hp:=rW (b:=v.bytes) aa;refine wk ?_;refine(Ov H.data l6 aa).use ?_;rintro q w⟨r,rfl,K⟩;replace H:=H.cq K;have hrl:=H.dW (i:=0) rfl (λ_=>rfl) ai;refine wk ?_;refine⟨?_,H.sx⟩;rw[F,hrl];rfl
 rw[ae k2]at F;refine wk ?_;rw[l3];refine(iR (n:=v.parts.length) H.data (by constructor<;>omega)).use ?_;rintro q w⟨r,rfl,K⟩;replace H:=H.cq K;have hrl:=H.dW (i:=0) rfl (λ_=>rfl) ai;have hp:=dq (n:=v.parts.length) aa aa;have hnl:v.names.length<=600:=aa;refine wk ?_;refine aP (S:=Nat×Nat) al [0,1,2,7,15,19] (λk=>[(3,iv k.2),(4,iv k.1)]) (λk w'=>k.1<=v.names.length/\k.2=1+(az v.parts.length).length+((v.names.take k.1).map λs=>1+s.length).sum/\k.2<=100+k.1*33/\Rel W V [.ay b1 [iv v.kind,iv v.num,bs.v,ss.v,pl.v] 27] V w') (λk _=>v.names.length-k.1) (0,1+(az v.parts.length).length) ?_;conv=>whnf
 refine⟨?_,⟨aa,ah,aa,H.sx⟩,?_⟩
 ·rw[hrl];exact⟨rfl,rfl,trivial⟩
 clear H;rintro⟨k,s⟩w⟨hk,hs,rI,H⟩;dsimp only at hk hs rI H;by_cases hlt:k<v.names.length;rotate_left
 ·rw[bJ aa]at hs;refine wk ?_;rw[F,<-hs];exact⟨rfl,H.sx⟩
 obtain⟨vU,D6⟩:=hns.oa (g:=str) (λ_=>rfl) hlt;have hnm:=EH (hna _ (bS hlt));have hsz:(ByteArray.mk (v.names[k]).toArray).size=(v.names[k]).length:=rfl;refine wk ?_;refine⟨sB,(k+1,s+1+v.names[k].length),?_,⟨aa,?_,by dsimp only;omega,H.sx⟩,by dsimp only;omega⟩
 ·exact⟨rfl,rfl,trivial⟩
 dsimp only;rw[bK hlt];simp only[dU,Je,fO,lk,qy,List.sum_nil];omega
theorem agC(hV:Sub V W){h:VH}{v:ao}(hv:cb V h v)(hB:VB 1099511627776 v):aB 106 [gw h] W λq w'=>q=iv (dP v)/\Rel W V [] V w':=by
 have H:=aG hV;have l3:=hv.uW;have e1:=hv.kind;have e2:=hv.num;have hns:=hv.names;have l2:=hns.len;have l1:=hv.bytes.len;have hnl:=hB.names;have hbl:=hB.bytes;have hpl:=hB.parts;obtain⟨hk,hn,bs,ss,pl⟩:=h;dsimp only at e1 e2 l1 l2 l3 hns;subst e1 e2;change aB 106 [.agg [iv v.kind,iv v.num,bs.v,ss.v,pl.v].toArray] W _;have n5:¬(1<=v.kind/\v.kind<=4)->dP v=5:=λh=>by rw[dP,ag h]
 have n6:(1<=v.kind/\v.kind<=4)->jA v->dP v=6:=λh h2=>by rw[dP,ae aa,ag h2]
 refine nX al Tryz.func106 rfl av 104 rfl ah [0,1,2,3,4,5,9,50,62,66,71,80,85,90,103] ?_;refine aM.cA al ?_;refine H.wn ?_;intro w b1 H;refine wk ?_;refine aM.cA al ?_;refine wk ((gd v.kind 1 4 w).use ?_);rintro q w'⟨rfl,rfl⟩;by_cases hr:1<=v.kind/\v.kind<=4;rotate_left
 ·refine wk ?_;exact⟨by rw[n5 hr],H.sx⟩
 refine wk ?_;have n6:=n6 hr;unfold jA at n6;refine aM.lq al (λ_:Unit=>[(1,.pointer (some ⟨b1,0,none⟩))]) (λ_ w'=>(¬((v.num≠0/\v.kind≠1)\/(0<v.bytes.length/\v.kind≠2)\/(0<v.names.length/\v.kind≠4)\/(0<v.parts.length/\v.kind<3)))/\Rel W V [.ay b1 [iv v.kind,iv v.num,bs.v,ss.v,pl.v] 27] V w') ?_ ?_
 ·by_cases k1:v.kind=1;all_goals by_cases a1:v.num=0
  all_goals by_cases k2:v.kind=2
  all_goals first|(exfalso;omega)|skip
  all_goals by_cases a2:v.bytes.length=0
  all_goals by_cases k4:v.kind=4
  all_goals first|(exfalso;omega)|skip
  all_goals by_cases a3:v.names.length=0
  all_goals by_cases a4:v.parts.length=0
  all_goals
   refine wk ?_
   first
    | exact⟨by rw[n6 aa],H.sx⟩
    | exact⟨(),sB,aa,H.sx⟩
 clear H;rintro _ w⟨hb4,H⟩;refine aM.lq al (λ_:Unit=>[(1,.pointer (some ⟨b1,0,none⟩))]) (λ_ w'=>(¬jA v)/\Rel W V [.ay b1 [iv v.kind,iv v.num,bs.v,ss.v,pl.v] 27] V w') ?_ ?_
 ·by_cases k4:v.kind=4;all_goals by_cases a4:v.names.length=v.parts.length
  all_goals
   refine wk ?_
   first
    | exact⟨by rw[n6 aa],H.sx⟩
    | exact⟨(),sB,by unfold jA;omega,H.sx⟩
 clear H;rintro _ w⟨hf,H⟩;refine aM.cA al ?_;by_cases vH:600<v.parts.length
 ·have n14:dP v=14:=by rw[dP,ae aa,ae hf,ag vH]
  refine wk ?_;exact⟨by rw[n14],H.sx⟩
 refine wk ?_;refine aM.lq al (λ_:Unit=>[(1,.pointer (some ⟨b1,0,none⟩))]) (λ_ w'=>(v.names.any (λs=>!cX s)=false)/\Rel W V [.ay b1 [iv v.kind,iv v.num,bs.v,ss.v,pl.v] 27] V w') ?_ ?_
 ·refine wk ?_;refine aP (S:=Nat) al [0,1,4,5,9,50,62,66,85,90,103] (λk=>[(3,iv k)]) (λk w'=>k<=v.names.length/\(v.names.take k).any (λs=>!cX s)=false/\Rel W V [.ay b1 [iv v.kind,iv v.num,bs.v,ss.v,pl.v] 27] V w') (λk _=>v.names.length-k) 0 ?_;conv=>whnf
  refine⟨sB,⟨aa,ah,H.sx⟩,?_⟩;clear H;rintro k w⟨hk,hz,H⟩;by_cases hlt:k<v.names.length;rotate_left
  ·rw[bJ aa]at hz;refine wk ?_;exact⟨(),sB,hz,H.sx⟩
  obtain⟨hp,hc⟩:=hns.oa (g:=str) (λ_=>rfl) hlt;refine wk ((NW w v.names[k]).use ?_);rintro q w'⟨rfl,rfl⟩;cases hnm:cX v.names[k]with
  | false =>refine wk ?_;refine⟨?_,H.sx⟩;rw[dP,ae aa,ae hf,ae vH,ag];rw[wF];exact⟨v.names[k],bS hlt,by rw[hnm];rfl⟩
  | true =>refine wk ?_;exact⟨sB,k+1,sB,⟨aa,by rw[Gv hlt,hz,hnm];rfl,H.sx⟩,aa⟩
 clear H;rintro _ w⟨Mn,H⟩;have DH:dP v=if v.names.Nodup then 0 else 8:=by
  rw[dP,ae aa,ae hf,ae aa,ae (by rw[Mn];simp)];by_cases hn:v.names.Nodup
  ·rw[ae (by simpa using hn),ag hn]
  rw[ag hn,ae hn]
 refine aM.cA al ?_;refine wk ?_;refine aP (S:=Nat) al [0,1,3,9,50,62,66,71,80] (λk=>[(4,iv k)]) (λk w'=>k<=v.names.length/\(v.names.take k).Nodup/\Rel W V [.ay b1 [iv v.kind,iv v.num,bs.v,ss.v,pl.v] 27] V w') (λk _=>v.names.length-k) 0 ?_;conv=>whnf
 refine⟨sB,⟨aa,ah,H.sx⟩,?_⟩;clear H;rintro k w⟨hk,hz,H⟩;by_cases hlt:k<v.names.length;rotate_left
 ·rw[bJ aa]at hz;refine wk ?_;refine aM.go al ?_;refine wk ?_;exact⟨by rw[DH,ag hz],H.sx⟩
 obtain⟨hp,hc⟩:=hns.oa (g:=str) (λ_=>rfl) hlt;refine wk ?_;refine aP (S:=Nat) al [0,1,3,4,9,50,62,66,71,80,85] (λj=>[(5,iv j)]) (λj w'=>j<=k/\v.names[k]∉v.names.take j/\Rel W V [.ay b1 [iv v.kind,iv v.num,bs.v,ss.v,pl.v] 27] V w') (λj _=>k-j) 0 ?_;conv=>whnf
 refine⟨sB,⟨aa,ah,H.sx⟩,?_⟩;clear H;rintro j w⟨hj,hnz,H⟩;by_cases hjt:j<k;rotate_left
 ·obtain rfl:j=k:=aa;refine wk ?_;refine⟨sB,j+1,sB,⟨aa,?_,H.sx⟩,aa⟩;rw[bK hlt,rZ];exact⟨hz,ah,λa ha b hb=>by rw[cz.1 hb];exact λe=>hnz (e▸ha)⟩
 obtain⟨iz,hc2⟩:=hns.oa (g:=str) (λ_=>rfl) (show j<v.names.length by omega);refine wk ?_;refine dV 20 [] [0,1,2,3,4,5,6,7,8,9,10] H ?_;intro w H;refine wk ?_;refine gj (λh5=>?_) (λh5=>?_)
 ·refine wk ?_;refine⟨?_,H.sx⟩;rw[DH,ae];intro hn;have:=(List.nodup_iff_pairwise_ne.1 hn)
  rw[List.pairwise_iff_getElem]at this;exact this j k aa hlt hjt h5.symm
 refine wk ?_;exact⟨sB,j+1,sB,⟨aa,PO aa hnz h5,H.sx⟩,aa⟩
abbrev FA:ab:=[114,97,116,101]
abbrev Fz:ab:=[99,104,97,110,110,101,108,115]
abbrev FB:ab:=[115,97,109,112,108,101,115]
abbrev IE(n:Int):ao:=.mk 1 n [] [] []
abbrev Re(b:ab):ao:=.mk 2 0 b [] []
abbrev nL(rate ch:Int)(b:ab):ao:=.mk 4 0 [] [FA,Fz,FB] [IE rate,IE ch,Re b]
def jL(l:List Int):ab:=l.flatMap λv=>iI true (fK true v)
theorem O4{f:Nat->List α}{g:Nat->List α}(h:∀i,i<n->f i=g i):(bZ n).flatMap f=(bZ n).flatMap g:=by rw[WV,WV];congr 1;exact qz λi hi=>h i (oG.1 hi)
theorem Xs[Inhabited α]{f:α->List β}(l:List α):(bZ l.length).flatMap (λi=>f (l[i]?.getD default))=l.flatMap f:=by
 induction l with
 | nil=>rfl
 | cons x l ih =>rw[aq,E8,bD,se,bD];congr 1
theorem Yg(l:List Int)(ch:Nat):tJ l 1 ch=jL l:=by unfold tJ jL;rw[<-Xs (f:=λv:Int=>iI true (fK true v)) l];refine O4 λi hi=>?_;unfold jg;rw[ae (by simp[cj])];simp only[ib,bz hi,gQ,oI];rfl
theorem FI(l:List Int):(jL l).length=2*l.length:=by
 unfold jL;induction l with
 | nil=>rfl
 | cons x l ih=>rw[bD,ak,ih];simp[iI];omega
def tK(cs:List cu):Option (ab×ab):=match cs.filter dA with
 | [f,d]=>if f.1=70/\d.1=68 then some (f.2,d.2)else none
 | _=>none
structure vo where
 rate:Nat
 ch:Nat
 coding:Nat
 jc:List Int
 notes:List iW
def vC(f d:ab):Prop:=f.length=4/\(1<=at8 f 2/\at8 f 2<=2)/\at8 f 3<4/\d.length%((at8 f 3%2+1)*at8 f 2)=0
instance(f d:ab):Decidable (vC f d):=by unfold vC;infer_instance
def FH(f d:ab)(ns:List iW):vo:=⟨256*at8 f 0+at8 f 1,at8 f 2,at8 f 3,iT d (at8 f 3) (at8 f 2),ns⟩
def mj(cs:List cu):Option vo:=match tK cs with
 | none=>none
 | some (f,d)=>if vC f d then some (FH f d (dw 0 cs))else none
def oL(b:ab):Option vo:=match kQ b with
 | none=>none
 | some cs=>mj cs
def tI(x:vo):Option (ao×ab):=if(ct (nL x.rate x.ch (jL x.jc))).1≠0 then none else some (nL x.rate x.ch (jL x.jc),kR x.coding x.notes)
def gg(b:ab):Option (ao×ab):=match oL b with
 | none=>none
 | some x=>tI x
theorem ago{r x:Nat}(hr:r<full)(hx:x<full):((r+x)%full+full-x)%full=r:=by
 by_cases h:r+x<full
 ·have e:(r+x)%full=r+x:=wI h;rw[e,show r+x+full-x=r+full by omega,W8,wI hr]
 have e:(r+x)%full=r+x-full:=by rw[Nat.mod_eq_sub_mod aa,wI aa]
 rw[e,show r+x-full+full-x=r by omega,wI hr]
theorem agn{r x:Nat}(hr:r<full)(hx:x<full):((r+full-x)%full+x)%full=r:=by
 by_cases h:x<=r
 ·have e:(r+full-x)%full=r-x:=by rw[show r+full-x=(r-x)+full by omega,W8,wI aa]
  rw[e,show r-x+x=r by omega,wI hr]
 have e:(r+full-x)%full=r+full-x:=wI aa;rw[e,show r+full-x+x=r+full by omega,W8,wI hr]
theorem alH(w:Bool){u:Nat}(h:u<bY w):fK w (ep w u)=u:=by
 unfold fK ep;unfold bY at h;cases w with
 | true =>simp only[if_true]at h |-;split<;>omega
 | false =>simp only[sw,if_false]at h |-;omega
theorem P8{l:au}{r:Nat}(h:l[i]?=some r):(dh df ch full l)[i]?=some (if df=true/\ch<=i then(r+(dh df ch full (l.take i))[i-ch]?.getD 0)%full else r):=by
 have hlt:=(dH.1 h).1;have key:∀(b acc:au),∃x,b.foldl (λacc r=>acc++[if df=true/\ch<=acc.length then(r+acc[acc.length-ch]?.getD 0)%full else r]) acc=acc++x:=by
  intro b;induction b with
  | nil=>intro acc;exact⟨[],ah⟩
  | cons y b ih =>intro acc;obtain⟨x,hx⟩:=ih (acc++[if df=true/\ch<=acc.length then(y+acc[acc.length-ch]?.getD 0)%full else y]);exact⟨_,by rw[BW,hx,bj]⟩
 have pre:∀(a b:au),∃x,dh df ch full (a++b)=dh df ch full a++x:=λa b=>by obtain⟨x,hx⟩:=key b (dh df ch full a);exact⟨x,by rw[<-hx];unfold dh;rw[E7]⟩
 obtain⟨x,hx⟩:=pre (l.take (i+1)) (l.drop (i+1));rw[eW]at hx;have hl:(dh df ch full (l.take i)).length=i:=by rw[oO,bg];omega
 rw[hx,Cp h,bj,BQ aa,hl];simp
theorem alD{l:au}{j:Nat}(hj:j<i)(hi:i<=l.length):(dh df ch full (l.take i))[j]?=(dh df ch full l)[j]?:=by
 have h1:(l.take i)[j]?=some l[j]:=by rw[BM,ag hj,bz]
 rw[P8 h1,P8 (bz aa:l[j]?=some l[j]),List.take_take,tB aa]
theorem akY{l:au}(h:∀r∈l,r<full)(hf:0<full)(hch:1<=ch){i:Nat}(hi:i<l.length):jg df ch full (dh df ch full l) i=l[i]:=by
 have h1:=P8 (df:=df) (ch:=ch) (full:=full) (bz hi);have hr:=h _ (bS hi);unfold jg;by_cases hd:df=true/\ch<=i
 ·rw[ag hd,h1,oI,ag hd,alD aa aa];have hb:=tR (df:=df) (ch:=ch) h hf (i-ch);generalize (dh df ch full l)[i-ch]?.getD 0=x at hb;generalize l[i]=r at hr;exact ago hr hb
 rw[ae hd,h1,oI,ae hd]
theorem Y8{df:Bool}{ch full:Nat}(hf:0<full)(hch:1<=ch)(U:au)(h:∀i:Nat,U[i]?.getD 0<full):∀k,k<=U.length->dh df ch full ((bZ k).map (jg df ch full U))=U.take k
 | 0,_=>rfl
 | k+1,hk=>by
  have ih:=Y8 (df:=df) (ch:=ch) hf hch U h k aa;rw[oH,dU,List.map_singleton,Kd,ih,bK aa];congr 1;have hl:(U.take k).length=k:=by simp;omega
  rw[hl];have e0:U[k]?.getD 0=U[k]:=by rw[bz aa];rfl
  have b0:=h k;rw[e0]at b0;by_cases hd:df=true/\ch<=k
  ·rw[ag hd,BM,ag aa];unfold jg;rw[ag hd,e0];have b1:=h (k-ch);generalize U[k-ch]?.getD 0=x at b1;generalize U[k]=r at b0;exact ax (λz=>[z]) (agn b0 b1)
  rw[ae hd];unfold jg;rw[ae hd,e0]
theorem aiF(w:Bool)(d:ab)(hev:w=true->d.length%2=0):(bZ (cK w d).length).flatMap (λi=>iI w ((cK w d)[i]?.getD 0))=d:=by
 cases w with
 | false =>
  have e:∀i,i<d.length->iI false ((cK false d)[i]?.getD 0)=[d[i]?.getD 0]:=λi hi=>by rw[B1 hi];simp[iI,at8]
  rw[sA,ae ah,O4 e];exact(Xs (f:=λx:UInt8=>[x]) d).trans ah
 | true =>
  have hl:=hev rfl;rw[sA,ag rfl];have key:∀n,2*n<=d.length->(bZ n).flatMap (λi=>iI true ((cK true d)[i]?.getD 0))=d.take (2*n):=by
   intro n;induction n with
   | zero=>intro _;rfl
   | succ n ih =>intro hn;rw[oH,cw,ih aa,show 2*(n+1)=2*n+1+1 by omega,bK aa,bK aa,bj];congr 1;rw[bD,eL,aZ,B2 aa,oI];simp only[iI,if_true,qU (show 2*n<d.length by omega),qU (show 2*n+1<d.length by omega)];have a:=d[2*n].toNat_lt;have b:=d[2*n+1].toNat_lt;rw[show(d[2*n].toNat+256*d[2*n+1].toNat)%256=d[2*n].toNat by omega,show(d[2*n].toNat+256*d[2*n+1].toNat)/256=d[2*n+1].toNat by omega];simp
  rw[key _ aa,bJ aa]
theorem Dh(w:Bool):0<bY w:=by unfold bY;split<;>omega
theorem akc{d:ab}(hch:1<=ch)(hev:aH coding=true->d.length%2=0):tJ (iT d coding ch) coding ch=d:=by
 have hr:=sC (aH coding) d;have hU:(iT d coding ch).map (fK (aH coding))=dh (cj coding) ch (bY (aH coding)) (cK (aH coding) d):=by
  unfold iT;rw[pD];conv=>rhs;rw[<-ze (dh (cj coding) ch (bY (aH coding)) (cK (aH coding) d))]
  refine qz λu hu=>alH _ ?_;exact Kc (Dh _) _ _ rfl hr u hu
 have hl:(iT d coding ch).length=(cK (aH coding) d).length:=by rw[iT,aW,oO]
 unfold tJ;rw[hU,hl];conv=>rhs;rw[<-aiF (aH coding) d hev]
 refine O4 λi hi=>?_;rw[akY hr (Dh _) hch hi,bz hi,oI]
def fits(w:Bool)(x:Int):Prop := -32768<=x/\x<=32767/\(w=false->x%256=0)
theorem al6{w:Bool}{x:Int}(h:fits w x):ep w (fK w x)=x:=by
 obtain⟨h1,h2,h3⟩:=h;unfold fK ep;cases w with
 | true =>simp only[if_true];split<;>omega
 | false =>have:=h3 rfl;simp only[sw,if_false];omega
theorem aiE(w:Bool)(R:au)(h:∀r∈R,r<bY w):cK w (R.flatMap (iI w))=R:=by
 cases w with
 | false =>
  have e:R.flatMap (iI false)=R.map aD:=by
   induction R with
   | nil=>rfl
   | cons r R ih=>rw[bD,ih (λx hx=>h x (by simp[hx]))];simp[iI]
  refine zc λi=>?_;by_cases hi:i<R.length
  ·rw[B1 (by rw[e];simpa using hi),e];have hb:R[i]<256:=h _ (bS hi);simp only[at8,ib,bz hi,gQ,oI];rw[dB hb]
  rw[lO (by rw[sA,ae ah,e];simp;omega),lO aa]
 | true =>
  have hlen:(R.flatMap (iI true)).length=2*R.length:=by
   clear h;induction R with
   | nil=>rfl
   | cons r R ih=>rw[bD,ak,ih];simp[iI];omega
  have hat:∀(R:au) (i:Nat) (hi:i<R.length),R[i]<65536->at8 (R.flatMap (iI true)) (2*i)=R[i]%256/\at8 (R.flatMap (iI true)) (2*i+1)=R[i]/256:=by
   intro R;induction R with
   | nil=>intro i hi;simp at hi
   | cons r R ih =>
    intro i hi hb;have e:(r::R).flatMap (iI true)=aD (r%256)::aD (r/256)::R.flatMap (iI true):=rfl;cases i with
    | zero =>simp only[qA]at hb |-;rw[e];simp only[at8,Nat.mul_zero,Ja,oI,dR,y8];rw[dB aa,dB aa];exact⟨rfl,rfl⟩
    | succ i =>have:=ih i (by simpa using hi) (by simpa using hb);rw[e];simp only[at8,show 2*(i+1)=2*i+1+1 by omega,y8,List.getElem_cons_succ]at this |-;exact this
  refine zc λi=>?_;by_cases hi:i<R.length
  ·rw[B2 aa,bz hi];have hb:R[i]<65536:=h _ (bS hi);obtain⟨a,b⟩:=hat R i hi hb;rw[a,b];congr 1;omega
  rw[lO (by rw[sA,ag rfl];omega),lO aa]
theorem akh{l:List Int}(hch:1<=ch)(h:∀x∈l,fits (aH coding) x):iT (tJ l coding ch) coding ch=l:=by
 have hU:=FY (aH coding) l;obtain⟨U,Hw⟩:∃U,U=l.map (fK (aH coding)):=⟨_,rfl⟩
 have jl:U.length=l.length:=by rw[Hw,aW]
 have e:tJ l coding ch=((bZ U.length).map (jg (cj coding) ch (bY (aH coding)) U)).flatMap (iI (aH coding)):=by unfold tJ;rw[se,jl,Hw]
 rw[<-Hw]at hU;unfold iT;rw[e,aiE _ _ (by intro r hr;obtain⟨i,_,rfl⟩:=cJ.1 hr;exact akX (Dh _) hU i),Y8 (Dh _) hch U hU _ (aQ _),fA,Hw,pD]
 conv=>rhs;rw[<-ze l]
 exact qz λx hx=>al6 (h x hx)
theorem PB{d:ab}:∀x∈iT d coding ch, -32768<=x/\x<=32767:=by
 intro x hx;obtain⟨u,hu,rfl⟩:=cJ.1 hx;have hb:=Kc (Dh (aH coding)) _ _ rfl (sC (aH coding) d) u hu;unfold ep;unfold bY at hb;generalize aH coding=w at hb |-;cases w with
 | true=>simp only[if_true]at hb |-;split<;>omega
 | false=>simp only[sw,if_false]at hb |-;omega
def LP(rate ch coding:Nat):ab:=[aD (rate/256),aD (rate%256),aD ch,aD coding]
def Yi(rate ch coding:Nat)(l:List Int):List cu:=[(70,LP rate ch coding),(68,tJ l coding ch)]
def FK(rate ch coding:Nat)(l:List Int)(ns:List iW):ab:=[83,78,68,49]++((xd (ns.length+2) 0 ns (Yi rate ch coding l)).flatMap rX++[0])
structure Kx(v r c s:ao):Prop where
 kind:v.kind=4
 names:v.names=[FA,Fz,FB]
 rk:r.kind=1
 ck:c.kind=1
 sk:s.kind=2
 r0:0<=r.num/\r.num<=65535
 c0:1<=c.num/\c.num<=2
 s0:s.bytes.length%(2*c.num.toNat)=0
instance(v r c s:ao):Decidable (Kx v r c s):=decidable_of_iff (v.kind=4/\v.names=[FA,Fz,FB]/\r.kind=1/\c.kind=1/\s.kind=2/\(0<=r.num/\r.num<=65535)/\(1<=c.num/\c.num<=2)/\s.bytes.length%(2*c.num.toNat)=0) ⟨λ⟨a,b,c,d,e,f,g,h⟩=>⟨a,b,c,d,e,f,g,h⟩,λ⟨a,b,c,d,e,f,g,h⟩=>⟨a,b,c,d,e,f,g,h⟩⟩
def Ch(v:ao):Option (Nat×Nat×ab):=match v.parts with
 | [r,c,s]=>if Kx v r c s then some (r.num.toNat,c.num.toNat,s.bytes)else none
 | _=>none
noncomputable def FG(v:ao)(b:ab):fV:=match Ch v,FJ b with
 | some (rate,ch,s),some (coding,ns)=>if(FK rate ch coding (iT s 1 ch) ns).length<=1000/\gg (FK rate ch coding (iT s 1 ch) ns)=some (v,b)then some (FK rate ch coding (iT s 1 ch) ns)else none
 | _,_=>none
theorem Dg{d:ab}(h:tK cs=some (f,d)):cs.filter dA=[(70,f),(68,d)]:=by
 unfold tK at h;split at h
 ·rename_i x y hf;split at h
  ·rename_i hk;cases h;obtain⟨x1,x2⟩:=x;obtain⟨y1,y2⟩:=y;obtain⟨h1,h2⟩:=hk;dsimp only at h1 h2;subst h1 h2;exact hf
  cases h
 cases h
theorem Ws{d:ab}(h:cs.filter dA=[(70,f),(68,d)]):tK cs=some (f,d):=by unfold tK;rw[h];simp
structure aar(b:ab)(cs:List cu)(f d:ab)(x:vo):Prop where
 gM:kQ b=some cs
 bytes:b=[83,78,68,49]++(cs.flatMap rX++[0])
 ok:∀c∈cs,CW c
 two:cs.filter dA=[(70,f),(68,d)]
 Hj:vC f d
 eq:x=FH f d (dw 0 cs)
theorem Pz{x:vo}(h:oL b=some x):∃cs f d,aar b cs f d x:=by
 unfold oL at h;split at h
 ·cases h
 rename_i cs hc;unfold mj at h;split at h
 ·cases h
 rename_i f d hp;split at h
 ·rename_i hk;cases h;refine⟨cs,f,d,hc,?_,?_,Dg hp,hk,rfl⟩
  all_goals
   unfold kQ at hc;split at hc
   ·rename_i h4;obtain⟨h1,h2⟩:=CX _ _ _ (aQ _) hc
    first
     | exact h2
     | (conv=>lhs;rw[<-eW 4 b,h4,h1])
   cases hc
 cases h
theorem adm(h:f.length=4):LP (256*at8 f 0+at8 f 1) (at8 f 2) (at8 f 3)=f:=by
 match f,h with
 | [a,b,c,d],_ =>have ha:=a.toNat_lt;have hb:=b.toNat_lt;simp only[LP,at8,Ja,y8,oI];rw[show(256*a.toNat+b.toNat)/256=a.toNat by omega,show(256*a.toNat+b.toNat)%256=b.toNat by omega];simp
theorem EK{x y:cu}(h:cs.filter dA=[x,y]):(dw 0 cs).length+2=cs.length:=by have:=IB cs 0;rw[h]at this;exact this
theorem agH{x y:cu}(h:cs.filter dA=[x,y])(hok:∀c∈cs,CW c):wi (dw 0 cs).length (-1) (dw 0 cs)=true:=by have hc:=EK h;refine VS (N8 cs 0) λn hn=>?_;obtain⟨h1,h2,h3,h4⟩:=yT cs 0 n hn;obtain⟨h5,h6,_⟩:=hok _ h3;exact⟨aa,aa,h4,h5,h6⟩
theorem ac7{l:List cu}{c:cu}(h:c∈l):3+c.2.length<=(l.flatMap rX).length:=by obtain⟨s,t,rfl⟩:=List.append_of_mem h;simp only[cw,bD,ak,WN];omega
theorem Hg(l:List cu):3*l.length<=(l.flatMap rX).length:=by
 induction l with
 | nil=>simp
 | cons c l ih=>simp only[bD,ak,WN,aq];omega
theorem PA{v:ao}(h:gg b=some (v,r)):∃x,oL b=some x/\(ct v).1=0/\v=nL x.rate x.ch (jL x.jc)/\r=kR x.coding x.notes:=by
 unfold gg at h;split at h
 ·cases h
 rename_i x hx;unfold tI at h;split at h
 ·cases h
 rename_i hv;cases h;exact⟨x,hx,pB.1 hv,rfl,rfl⟩
theorem SP(h:n%((s%2+1)*c)=0)(hs:s%2=1):n%2=0:=by rw[hs]at h;obtain⟨k,hk⟩:=ahY h;rw[hk,show(1+1)*c*k=2*(c*k)by rw[BO]];omega
theorem Yj{v:ao}(hl:b.length<=1000)(h:gg b=some (v,r)):∃x,oL b=some x/\FJ r=some (x.coding,x.notes)/\x.coding<4:=by
 obtain⟨x,hx,_,_,rfl⟩:=PA h;obtain⟨cs,f,d,S⟩:=Pz hx;refine⟨x,hx,?_,?_⟩
 ·have oh:=EK S.two;have hb:=ax bU S.bytes;have hfl:=Hg cs;simp only[ak,aq,aK]at hb;rw[S.eq];refine ake S.Hj.2.2.1 (by show(dw 0 cs).length<=1000;omega) (agH S.two S.ok) λn hn=>?_;have:=(S.ok _ (yT cs 0 n hn).2.2.1).2.2;omega
 rw[S.eq];exact S.Hj.2.2.1
theorem aki{l:List Int}(hch:1<=ch)(h:∀x∈l, -32768<=x/\x<=32767):iT (jL l) 1 ch=l:=by rw[<-Yg l ch];exact akh hch λx hx=>⟨(h x hx).1,(h x hx).2,λh=>by cases h⟩
theorem akg{rate:Nat}(h1:rate<=65535)(h2:1<=ch/\ch<=2)(h3:b.length%(2*ch)=0):Ch (nL rate ch b)=some (rate,ch,b):=by
 unfold Ch;show(if Kx (nL rate ch b) (IE rate) (IE ch) (Re b)then _ else _)=_;rw[ag]
 ·simp
 exact⟨rfl,rfl,rfl,rfl,rfl,by show(0:Int)<=rate/\(rate:Int)<=65535;omega,by show(1:Int)<=ch/\(ch:Int)<=2;omega,by show b.length%(2*(ch:Int).toNat)=0;simpa using h3⟩
theorem akj{v:ao}(hl:b.length<=1000)(h:gg b=some (v,r)):FG v r=some b:=by
 obtain⟨x,hx,hrd,hc4⟩:=Yj hl h;obtain⟨x',yJ,hv0,hv,hr⟩:=PA h;rw[hx]at yJ;cases yJ;obtain⟨cs,f,d,S⟩:=Pz hx;obtain⟨g1,g2,g3,g4⟩:=S.Hj;have b0:at8 f 0<256:=dm _;have b1:at8 f 1<256:=dm _;have yD:x.jc=iT d (at8 f 3) (at8 f 2):=by rw[S.eq];rfl
 have hch:x.ch=at8 f 2:=by rw[S.eq];rfl
 have hco:x.coding=at8 f 3:=by rw[S.eq];rfl
 have hra:x.rate=256*at8 f 0+at8 f 1:=by rw[S.eq];rfl
 have hno:x.notes=dw 0 cs:=by rw[S.eq];rfl
 have hev:aH (at8 f 3)=true->d.length%2=0:=λhw=>SP g4 (by simpa [aH]using hw);have hdiv:(jL x.jc).length%(2*x.ch)=0:=by
  rw[FI,hch,yD,iT,aW,oO,sA];obtain⟨k,hk⟩:=ahY g4;rcases Nat.mod_two_eq_zero_or_one (at8 f 3)with h0|h0
  ·rw[h0,dR,Nat.one_mul]at hk;rw[ae (by simp[aH,h0]),hk,<-BO];exact ahZ ..
  rw[h0]at hk;rw[ag (by simp[aH,h0]),hk,BO,Nat.mul_div_cancel_left _ aa,<-BO];exact ahZ ..
 have hsh:Ch v=some (x.rate,x.ch,jL x.jc):=by rw[hv];exact akg aa aa hdiv
 have hw:FK x.rate x.ch x.coding (iT (jL x.jc) 1 x.ch) x.notes=b:=by
  rw[aki aa (by rw[yD];exact PB)];unfold FK Yi;rw[hra,hch,hco,yD,hno,adm g1,akc aa hev,EK S.two];conv=>rhs;rw[S.bytes]
  have:=ZJ cs 0;rw[S.two]at this;rw[this]
 unfold FG;rw[hsh,hrd];simp only;rw[hw,ag ⟨hl,h⟩]
theorem afe(hV:Sub V W)(c:sR):aB 222 [.agg (CV c).toArray] W λv w'=>v=.bool (decide (c.1=68))/\Rel W V [] V w':=by
 have H:=aG hV;refine eV Tryz.func222 6 [0,1,2] ?_;refine H.wn ?_;intro w b1 H;refine wk ?_;refine⟨ax Value.bool (decide_eq_decide.2 ⟨λh=>?_,λh=>?_⟩),H.sx⟩
 ·apply bL.1;show c.1.toNat=68;omega
 rw[h];rfl
theorem ab4(hV:Sub V W){s:Sl}{l:List sR}(hs:aA CV V s l)(hl:l.length<=1000000){i:Nat}(hi:i<l.length)(h1:l[i].1=68)(h2:∀k,k<i->(h:k<l.length)->l[k].1≠68) :
  aB 221 [s.v,.func (.func 222) #[] #[]] W λv w'=>v=iv i/\Rel W V [] V w':=by
 have H:=aG hV;have hlen:=hs.len;refine eV Tryz.func221 19 [0,1,4,5,7,8,9,16] ?_;refine wk ?_;refine aP (S:=Nat) al [0,1,7] (λk=>[(8,iv k)]) (λk w'=>k<=i/\Rel W V [] V w') (λk _=>l.length-k) 0 ?_;conv=>whnf
 refine⟨sB,⟨aa,H⟩,?_⟩;clear H;rintro k w⟨hk,H⟩;have hlt:k<l.length:=aa;obtain⟨hp,hg⟩:=hs.get (n:=2) (λ_=>rfl) ai hlt;have np:=hg 0 _ rfl;have hc1:=hg 1 _ rfl;refine wk (H.us (afe H.data l[k]) ?_);intro w H;by_cases he:k=i
 ·subst he;rw[h1,bw rfl];refine wk ?_;exact H.sx
 rw[bA (h2 k aa hlt)];refine wk ?_;exact⟨sB,k+1,sB,⟨aa,H.sx⟩,aa⟩
theorem IH{g:FuncId}{cap:aC}{a:aj}{bs:ab}(h:∀V1 W1,Sub V1 W1->Sub V V1->tF g (a::cap).toArray W1 λv w'=>∃r:Sl,v=r.v/\Rel W1 V1 [.row r 5 1 (bs.flatMap aI)] V1 w'):vn V g cap a bs:=by intro V1 W1 h1 h2;refine(h V1 W1 h2 h1).mono ?_;rintro v w⟨r,rfl,K⟩;obtain⟨V2,hV2,K,hr⟩:=Rel.aJ K;exact⟨V2,r,hV2,rfl,hr,K⟩
theorem Hh{α:Type}{f:α->ab}{m:Nat}:∀ {l:List α},(∀x∈l,(f x).length<=m)->(l.flatMap f).length<=l.length*m
 | [],_=>by simp
 | x::l,h=>by have h1:=h x ah;have h2:=Hh (l:=l) λy hy=>h y (by simp[hy]);simp only[bD,ak,aq,qB];omega
theorem wD{f:α->ab}{l:List α}(hl:l.length<=1099511627776)(h:∀x∈l,(f x).length<=m):(cm f l).length<=10+l.length*m:=by have:=dq (n:=l.length) aa aa;have:=Hh h;rw[cm,ak];omega
def Reads{α β:Type}(V:ad)(g:FuncId)(cap:aC)(s:Sl)(A:β->aj)(R:ad->β->α->Prop)(p:Nat)(res:lE α):Prop :=
 ∀V1 W1,Sub V V1->Sub V1 W1->tF g (s.v::iv p::cap).toArray W1 (QC A R W1 V1 res)
theorem Vx{α:Type}{one:Nat->lE α}{k p q:Nat}{ys:List α}{c i:Int}(h:ja one k p=.ok ys q)(hb:one q=.bad c i):∀n,ja one (k+1+n) p=.bad c i
 | 0=>by rw[Nat.add_zero,Iw,h];simp only[hb]
 | n+1=>by rw[show k+1+(n+1)=(k+1+n)+1 by omega,Iw,Vx h hb n]
theorem af9{one:Nat->lE α}{p q r:Nat}{ys:List α}{y:α}(h:ja one k p=.ok ys q)(hb:one q=.ok y r):ja one (k+1) p=.ok (ys++[y]) r:=by rw[Iw,h];simp only[hb]
abbrev oT:=iW×Sl
abbrev Bt(p:oT):aC:=[bv p.1.2.1,p.2.v,iv p.1.1]
abbrev Ku(V:ad)(p:oT)(e:iW):Prop:=p.1=e/\aF V p.2 p.1.2.2
abbrev CE(V:ad)(s:Sl)(ns:List iW):Prop:=RL Bt Ku V s ns
theorem CE.up{V V':ad}{s:Sl}{ns:List iW}(h:CE V s ns)(k:Sub V V'):CE V' s ns:=by obtain⟨ps,h1,h2⟩:=h;exact⟨ps,h1.up k,h2.up (λ_ _ _ _ hs h=>⟨h.1,h.2.up hs⟩) k⟩
theorem Pw.agJ{ps:List oT}(h:Pw Ku V ps ns):ps.map (·.1)=ns:=by
 refine List.ext_getElem (by simp[h.len]) λi h1 h2=>?_;have h3:i<ps.length:=by simpa using h1
 rw[List.getElem_map];exact(h.all i _ _ (bz h3) (bz h2)).1
theorem aA.sT{f:α->aC}{s:Sl}{l:List α}(h:aA f V s l){g g' g'':α->aj}(hf:∀x,f x=[g x,g' x,g'' x]){i:Nat}(hi:i<l.length):Plain s.a/\V.cell? ⟨bW s.a,bM s.a+i*3,none⟩=some (g l[i])/\V.cell? ⟨bW s.a,bM s.a+i*3+1,none⟩=some (g' l[i])/\V.cell? ⟨bW s.a,bM s.a+i*3+2,none⟩=some (g'' l[i]):=by obtain⟨h1,h2⟩:=h.get (n:=3) (λx=>by rw[hf];rfl) aa hi;exact⟨h1,h2 0 _ (by rw[hf];rfl),h2 1 _ (by rw[hf];rfl),h2 2 _ (by rw[hf];rfl)⟩
theorem Ls(hV:Sub V W)(c i:Int):aB 143 [iv c,iv i] W λv w'=>v=kV c i/\Rel W V [] V w':=by have H:=aG hV;refine eV Tryz.func143 8 [0,1,4] ?_;refine H.wg ?_;intro _ _ w H;exact H.sx
theorem VQ(p:oT)(h1:cY p.1.1)(h2:p.1.2.2.length<=1099511620000)(hx:aF V p.2 p.1.2.2):vn V 226 [] (.agg (Bt p).toArray) (fg p.1):=IH λV1 W1 hV fR=>by
 have H:=aG hV;have dO:=hx.up fR;have hn:=dq h1.1 h1.2;have hc:=rW (b:=p.1.2.2) aa;refine eV Tryz.func226 16 [0,1,2] ?_;refine H.wn ?_;intro w b1 H;refine wk ?_;refine Li (id:=1) al mixed [2,6,10] [0,1,3,4,5,7,8,9,2,6,10,11,12,13] [(2,[]),(6,[]),(10,[2]),(11,[2,6,10]),(12,[2,6,10,11])] av ?_;intro w bG;replace H:=Rel.ext H bG.ext;refine wk ?_;refine⟨?_,?_⟩
 ·refine wk ((jW H.data h1).use ?_);rintro v w⟨r1,rfl,K⟩;replace H:=H.cq K;obtain⟨V2,hV2,H,hr1⟩:=Rel.aJ H;replace dO:=dO.up hV2;try replace hr1:=hr1.up hV2
  try replace ix:=ix.up hV2
  try replace hr3:=hr3.up hV2
  refine wk ?_;refine⟨?_,?_⟩
  ·refine H.wn ?_;intro w b9 H;obtain⟨V3,aw,H,DD⟩:=H.cU;have ix:aF V3 ⟨some ⟨b9,0,none⟩,1,1⟩ [p.1.2.1]:=dN.j4 (l:=[p.1.2.1]) DD rfl;replace dO:=dO.up aw;try replace hr1:=hr1.up aw
   try replace ix:=ix.up aw
   try replace hr3:=hr3.up aw
   refine wk ?_;refine wk ?_;refine(Aq H.data dO aa).use ?_;rintro v w⟨r3,rfl,K⟩;replace H:=H.cq K;obtain⟨V4,ar,H,hr3⟩:=Rel.aJ H;replace dO:=dO.up ar;try replace hr1:=hr1.up ar
   try replace ix:=ix.up ar
   try replace hr3:=hr3.up ar
   refine H.wn ?_;intro w nW H;obtain⟨V5,aN,H,q9⟩:=H.cU;replace dO:=dO.up aN;try replace hr1:=hr1.up aN
   try replace ix:=ix.up aN
   try replace hr3:=hr3.up aN
   refine wk ?_;refine(C0 (s:=⟨some ⟨nW,0,none⟩,3,3⟩) (hl:=[r1,⟨some ⟨b9,0,none⟩,1,1⟩,r3]) (ll:=[az p.1.1,[p.1.2.1],eh p.1.2.2]) H.data ⟨rfl,aQ _,q9.cells⟩ ⟨rfl,λk x y hx hy=>?_⟩ ah ?_).use ?_
   ·match k,hx,hy with
    | 0,hx,hy=>cases hx;cases hy;exact hr1
    | 1,hx,hy=>cases hx;cases hy;exact ix
    | 2,hx,hy=>cases hx;cases hy;exact hr3
    | k+3,hx,hy=>simp at hx
   ·simp only[pC,BS,ak,aq,aK];omega
   rintro v w⟨r,rfl,K⟩;replace H:=H.cq K;refine wk ?_;refine⟨r,rfl,?_⟩;have e:fg p.1=[az p.1.1,[p.1.2.1],eh p.1.2.2].flatten:=by simp[fg]
   rw[e];exact Rel.back H.sx
  refine wk ?_;refine(Aq H.data dO aa).use ?_;rintro v w⟨r3,rfl,K⟩;replace H:=H.cq K;obtain⟨V4,ar,H,hr3⟩:=Rel.aJ H;replace dO:=dO.up ar;try replace hr1:=hr1.up ar
  try replace ix:=ix.up ar
  try replace hr3:=hr3.up ar
  refine wk ?_;refine H.wn ?_;intro w b9 H;obtain⟨V3,aw,H,DD⟩:=H.cU;have ix:aF V3 ⟨some ⟨b9,0,none⟩,1,1⟩ [p.1.2.1]:=dN.j4 (l:=[p.1.2.1]) DD rfl;replace dO:=dO.up aw;try replace hr1:=hr1.up aw
  try replace ix:=ix.up aw
  try replace hr3:=hr3.up aw
  refine H.wn ?_;intro w nW H;obtain⟨V5,aN,H,q9⟩:=H.cU;replace dO:=dO.up aN;try replace hr1:=hr1.up aN
  try replace ix:=ix.up aN
  try replace hr3:=hr3.up aN
  refine wk ?_;refine(C0 (s:=⟨some ⟨nW,0,none⟩,3,3⟩) (hl:=[r1,⟨some ⟨b9,0,none⟩,1,1⟩,r3]) (ll:=[az p.1.1,[p.1.2.1],eh p.1.2.2]) H.data ⟨rfl,aQ _,q9.cells⟩ ⟨rfl,λk x y hx hy=>?_⟩ ah ?_).use ?_
  ·match k,hx,hy with
   | 0,hx,hy=>cases hx;cases hy;exact hr1
   | 1,hx,hy=>cases hx;cases hy;exact ix
   | 2,hx,hy=>cases hx;cases hy;exact hr3
   | k+3,hx,hy=>simp at hx
  ·simp only[pC,BS,ak,aq,aK];omega
  rintro v w⟨r,rfl,K⟩;replace H:=H.cq K;refine wk ?_;refine⟨r,rfl,?_⟩;have e:fg p.1=[az p.1.1,[p.1.2.1],eh p.1.2.2].flatten:=by simp[fg]
  rw[e];exact Rel.back H.sx
 refine H.wn ?_;intro w b9 H;obtain⟨V3,aw,H,DD⟩:=H.cU;have ix:aF V3 ⟨some ⟨b9,0,none⟩,1,1⟩ [p.1.2.1]:=dN.j4 (l:=[p.1.2.1]) DD rfl;replace dO:=dO.up aw;try replace hr1:=hr1.up aw
 try replace ix:=ix.up aw
 try replace hr3:=hr3.up aw
 refine wk ?_;refine wk ((jW H.data h1).use ?_);rintro v w⟨r1,rfl,K⟩;replace H:=H.cq K;obtain⟨V2,hV2,H,hr1⟩:=Rel.aJ H;replace dO:=dO.up hV2;try replace hr1:=hr1.up hV2
 try replace ix:=ix.up hV2
 try replace hr3:=hr3.up hV2
 refine wk ?_;refine wk ?_;refine(Aq H.data dO aa).use ?_;rintro v w⟨r3,rfl,K⟩;replace H:=H.cq K;obtain⟨V4,ar,H,hr3⟩:=Rel.aJ H;replace dO:=dO.up ar;try replace hr1:=hr1.up ar
 try replace ix:=ix.up ar
 try replace hr3:=hr3.up ar
 refine H.wn ?_;intro w nW H;obtain⟨V5,aN,H,q9⟩:=H.cU;replace dO:=dO.up aN;try replace hr1:=hr1.up aN
 try replace ix:=ix.up aN
 try replace hr3:=hr3.up aN
 refine wk ?_;refine(C0 (s:=⟨some ⟨nW,0,none⟩,3,3⟩) (hl:=[r1,⟨some ⟨b9,0,none⟩,1,1⟩,r3]) (ll:=[az p.1.1,[p.1.2.1],eh p.1.2.2]) H.data ⟨rfl,aQ _,q9.cells⟩ ⟨rfl,λk x y hx hy=>?_⟩ ah ?_).use ?_
 ·match k,hx,hy with
  | 0,hx,hy=>cases hx;cases hy;exact hr1
  | 1,hx,hy=>cases hx;cases hy;exact ix
  | 2,hx,hy=>cases hx;cases hy;exact hr3
  | k+3,hx,hy=>simp at hx
 ·simp only[pC,BS,ak,aq,aK];omega
 rintro v w⟨r,rfl,K⟩;replace H:=H.cq K;refine wk ?_;refine⟨r,rfl,?_⟩;have e:fg p.1=[az p.1.1,[p.1.2.1],eh p.1.2.2].flatten:=by simp[fg]
 rw[e];exact Rel.back H.sx
theorem Yf{W:ad}(hV:Sub V W){s:Sl}{l:List oT}(hs:aA Bt V s l){g:FuncId}{cap:aC}{enc:oT->ab}(hone:∀x∈l,vn V g cap ((λp=>.agg (Bt p).toArray) x) (enc x))(hll:l.length<=1099511627776)(hb:(cm enc l).length<=1099511627776) :
  aB 225 [s.v,.func (.func g) #[] cap.toArray] W λv w'=>∃r:Sl,v=r.v/\Rel W V [.row r 5 1 ((cm enc l).flatMap aI)] V w':=by
 have H:=aG hV;have hlen:=hs.len;rw[cm,ak]at hb;refine eV Tryz.func225 24 [0,1,4,5,7,11,12,13,14] ?_;refine wk ?_;rw[hlen];refine(jW (n:=l.length) H.data (by constructor<;>omega)).use ?_;rintro v w⟨r0,rfl,K⟩;replace H:=H.call K;refine wk ?_;refine aP (S:=Nat×Sl) al [0,1,4,11,12] (λk=>[(5,k.2.v),(13,iv k.1)]) (λk w'=>k.1<=l.length/\∃V1,Sub V V1/\Rel W V [.row k.2 5 1 ((az l.length++(l.take k.1).flatMap enc).flatMap aI)] V1 w') (λk _=>l.length-k.1) (0,r0) ?_;conv=>whnf
 refine⟨sB,⟨aa,V,aS _,by simpa using H⟩,?_⟩;clear H;rintro⟨k,r⟩w⟨hk,V1,hV1,H⟩;dsimp only at hk H;by_cases hlt:k<l.length;rotate_left
 ·refine wk ?_;rw[bJ aa]at H;exact⟨r,rfl,H.back⟩
 have hbl:=vD (enc:=enc) hlt;obtain⟨hp,jF,iA,vW⟩:=(hs.up hV1).sT (g:=λp:oT=>bv p.1.2.1) (g':=λp:oT=>p.2.v) (g'':=λp:oT=>iv p.1.1) (λ_=>rfl) hlt;refine H.wg ?_;intro _ _ w H;refine(hone l[k] (bS hlt) V1 w hV1 H.data).use ?_;rintro v w⟨V2,x,hV2,rfl,hx,K⟩;replace H:=H.call K;simp only[aL]at H;refine wk ?_;refine Rel.jO H (i:=1) rfl hx (by simp only[ak];omega) ?_;intro rn w H;rw[Hi hlt]at H;refine wk ?_;exact⟨sB,(k+1,rn),sB,⟨aa,V2,hV1.trans hV2,H.sx⟩,aa⟩
theorem ajd(hV:Sub V W){coding:Nat}(hc:coding<4){s:Sl}{ns:List iW}(hs:CE V s ns)(hl:ns.length<=1000)(hb:∀n∈ns,cY n.1/\n.2.2.length<=65535) :
  aB 146 [iv coding,s.v] W λv w'=>∃r:Sl,v=r.v/\Rel W V [.row r 5 1 ((kR coding ns).flatMap aI)] V w':=by
 have H:=aG hV;obtain⟨ps,hps,hpw⟩:=hs;have M9:=hpw.agJ;have aeD:=hpw.len;have anc:=hps.len;have hn:=dq (n:=(coding:Int)) aa aa;have uE:cm (λp:oT=>fg p.1) ps=cm fg ns:=by rw[<-M9];simp only[cm,aW,se]
 have hpl:(cm fg ns).length<=70000000:=by
  have:=wD (f:=fg) (m:=65600) (l:=ns) aa λx hx=>by obtain⟨⟨a,b⟩,c⟩:=hb x hx;have h1:=dq a b;have h2:=rW (b:=x.2.2) aa;simp only[fg,ak,aq];omega
  have h3:=kr 65600 hl;omega
 refine eV Tryz.func146 17 [0,1,4,11] ?_;by_cases h1:coding=1
 ·subst h1;have jT:=dq (n:=1) aa aa;by_cases h2:ns.length=0
  ·have hn0:ns=[]:=dt h2;have e:kR 1 ns=[]:=by rw[kR,ag ⟨rfl,hn0⟩]
   rw[e];refine wk ?_;exact⟨⟨none,0,0⟩,rfl,H.br _ _⟩
  have e:kR 1 ns=az 1++cm fg ns:=by
   rw[kR,ae]
   ·rfl
   rintro⟨_,h⟩;rw[h]at h2;exact h2 rfl
  rw[e];refine wk ?_;refine(jW (n:=1) H.data (by constructor<;>omega)).use ?_;rintro v w⟨r1,rfl,K⟩;replace H:=Rel.call H K;simp only[aZ]at H;refine wk ?_;refine(Yf (l:=ps) (enc:=λp:oT=>fg p.1) H.data hps (λp hp=>?_) aa (by rw[uE];omega)).use ?_
  ·obtain⟨i,hi,rfl⟩:=W7 hp;have hin:i<ns.length:=aa;have:=hpw.all i _ _ (bz hi) (bz hin);obtain⟨a,b⟩:=hb ps[i].1 (by rw[this.1];exact bS hin);exact VQ _ a aa this.2
  rintro v w⟨r2,rfl,K⟩;replace H:=H.cq K;refine wk ?_;refine Rel.eB H (i:=0) rfl (by rw[uE];omega) ?_;intro rn w H;rw[uE]at H;refine wk ?_;exact⟨rn,rfl,H⟩
 have e:kR coding ns=az coding++cm fg ns:=by rw[kR,ae];rintro⟨h,_⟩;exact h1 h
 rw[e];refine wk ?_;refine(jW (n:=(coding:Int)) H.data (by constructor<;>omega)).use ?_;rintro v w⟨r1,rfl,K⟩;replace H:=Rel.call H K;simp only[aZ]at H;refine wk ?_;refine(Yf (l:=ps) (enc:=λp:oT=>fg p.1) H.data hps (λp hp=>?_) aa (by rw[uE];omega)).use ?_
 ·obtain⟨i,hi,rfl⟩:=W7 hp;have hin:i<ns.length:=aa;have:=hpw.all i _ _ (bz hi) (bz hin);obtain⟨a,b⟩:=hb ps[i].1 (by rw[this.1];exact bS hin);exact VQ _ a aa this.2
 rintro v w⟨r2,rfl,K⟩;replace H:=H.cq K;refine wk ?_;refine Rel.eB H (i:=0) rfl (by rw[uE];omega) ?_;intro rn w H;rw[uE]at H;refine wk ?_;exact⟨rn,rfl,H⟩
theorem wb(c:cu):dA c=true↔c.1.toNat=70\/c.1.toNat=68:=by
 have h1:c.1=70↔c.1.toNat=70:=⟨λh=>by rw[h];rfl,λh=>bL.1 (by rw[h];rfl)⟩
 have h2:c.1=68↔c.1.toNat=68:=⟨λh=>by rw[h];rfl,λh=>bL.1 (by rw[h];rfl)⟩
 simp only[dA,Bool.or_eq_true,beq_iff_eq,h1,h2]
abbrev AG(rate ch coding:Nat)(rs rn:Sl):aC:=[iv rate,iv ch,iv coding,rs.v,rn.v]
def fmtS(a:Nat×Nat×Nat)(c:cu):Nat×Nat×Nat:=if c.1=70 then(256*at8 c.2 0+at8 c.2 1,at8 c.2 2,at8 c.2 3)else a
def uj(l:List cu):Nat×Nat×Nat:=l.foldl fmtS (0,0,0)
theorem LM(l:List cu)(c:cu):uj (l++[c])=fmtS (uj l) c:=by simp[uj,E7]
theorem ade(l:List cu):uj l=uj (l.filter dA):=by
 have:∀(l:List cu) (a:Nat×Nat×Nat),l.foldl fmtS a=(l.filter dA).foldl fmtS a:=by
  intro l;induction l with
  | nil=>intro a;rfl
  | cons c l ih =>
   intro a;by_cases h:dA c=true
   ·rw[Jb h,BW,BW,ih]
   rw[Jc h,BW,ih];congr 1;unfold fmtS;rw[ae];intro h1;exact h ((wb c).2 (.inl (by rw[h1];rfl)))
 exact this l _
theorem PC{l:List α}(h:k<l.length):l.take (k+1)=l.take k++[l[k]]:=bK h
def tH(l:List cu):ab:=(l.filter dA).map (·.1)
theorem Pr(l:List cu)(c:cu):tH (l++[c])=tH l++(if dA c=true then[c.1]else[]):=by
 unfold tH;rw[List.filter_append,dU];congr 1;split
 ·rename_i h;rw[Jb h];rfl
 rename_i h;rw[Jc h];rfl
theorem ajS(h:tH cs=[70,68]):∃f d,cs.filter dA=[(70,f),(68,d)]:=by
 unfold tH at h;match hf:cs.filter dA,h with
 | [(a,f),(b,d)],h =>simp only[fO,lk,List.cons.injEq,and_true]at h;obtain⟨rfl,rfl⟩:=h;exact⟨f,d,rfl⟩
theorem ahs(h:tH cs≠[70,68]):tK cs=none:=by
 cases hp:tK cs with
 | none=>rfl
 | some x =>obtain⟨f,d⟩:=x;exact absurd (by unfold tH;rw[Dg hp];rfl) h
theorem ab5{d:ab}(h:cs.filter dA=[(70,f),(68,d)]):∃i,∃hi:i<cs.length,cs[i]=(68,d)/\∀k,k<i->(hk:k<cs.length)->cs[k].1≠68:=by
 have hm:((68,d):cu)∈cs:=(y0.1 (by rw[h];simp:((68,d):cu)∈cs.filter dA)).1;have hlt:cs.findIdx (λc=>c.1 == 68)<cs.length:=List.findIdx_lt_length_of_exists ⟨_,hm,rfl⟩;refine⟨_,hlt,?_,λk hk tf=>?_⟩
 ·have h1:cs[cs.findIdx (λc=>c.1 == 68)].1=68:=by simpa using List.findIdx_getElem (w:=hlt)
  have h2:cs[cs.findIdx (λc=>c.1 == 68)]∈cs.filter dA:=y0.2 ⟨bS hlt,by rw[wb];right;rw[h1];rfl⟩;rw[h]at h2;simp only[bP,tA,or_false]at h2;rcases h2 with h2|h2
  ·rw[h2]at h1;cases h1
  exact h2
 have:=List.not_of_lt_findIdx hk;simpa using this
theorem GY{c:cu}(h:c∈cs.filter dA):c.2.length<=(cs.flatMap rX).length:=by have:=ac7 (y0.1 h).1;omega
structure Z7(W V:ad)(res:Option vo)(v:aj)(w':ad):Prop where
 ex:∃(V':ad) (rs rn:Sl),Sub V V'/\Rel W V [] V' w'/\(match res with
  | none=>v=.tuple #[.agg (AG 0 0 0 ⟨none,0,0⟩ ⟨none,0,0⟩).toArray,.bool false]
  | some x=>v=.tuple #[.agg (AG x.rate x.ch x.coding rs rn).toArray,.bool true]/\aA bN V' rs x.jc/\CE V' rn x.notes)
theorem acu:Utf8.encode (wr .i32 ((70:UInt8).toNat:Int))=⟨[70].toArray⟩:=by decide +kernel
theorem acs:Utf8.encode (wr .i32 ((68:UInt8).toNat:Int))=⟨[68].toArray⟩:=by decide +kernel
theorem acr:runesBytes [70,68]=⟨[70,68].toArray⟩:=by decide +kernel
theorem Rt{P:Program}{s d:TypeId}(hs:(P.underlying s).isSome=true)(hd:P.underlying d=some .string){k:IntKind}{n:Int}{l:ab}(hn:Utf8.encode n=⟨l.toArray⟩){G:aj->ad->Prop}(hk:G (str l) w):bE P (convert s d (.int k n)) w G :=
 Rel.K0 hs hd (by rw[hn];exact hk)
theorem aiW(hV:Sub V W){s:Sl}{l:ab}(hs:aF V s l)(hl:l.length<=1000):aB 144 [s.v] W (Z7 W V (oL l)):=by
 have H:=aG hV;have hlen:=hs.len;refine eV Tryz.func144 129 [0,2,3,4,5,6,7,8,9,10,17,19,20,21,22,27,36,41,73,103,121] ?_;refine H.wn ?_;intro w b2 H;refine wk ?_;refine(aiM H.data hs aa).use ?_;rintro v w⟨V2,r,hV2,K,hres⟩;replace H:=H.bd K;cases hc:kQ l with
 | none =>
  rw[hc]at hres;dsimp only at hres;subst hres;have e:oL l=none:=by rw[oL,hc]
  rw[e];refine H.wg ?_;intro w H;exact⟨V2,⟨none,0,0⟩,⟨none,0,0⟩,hV2,H.sx,rfl⟩
 | some cs =>
  rw[hc]at hres;obtain⟨rfl,ks,hks,uC⟩:=hres;have e:oL l=mj cs:=by rw[oL,hc]
  rw[e];have gk:=uC.len;have hrl:=hks.len;have hcl:cs.length<=1000/\∀c∈cs,CW c:=by
   unfold kQ at hc;split at hc
   ·obtain⟨h1,h2⟩:=CX _ _ _ (aQ _) hc;have h3:=ax bU h1;have h4:=Hg cs;simp only[ak,aU,aq,aK]at h3;exact⟨aa,h2⟩
   cases hc
  refine H.wn ?_;intro w b6 H;refine wk ?_;replace H:=H.br 281 3;refine aP (S:=Nat×Sl×List oT) al [0,2,4,5,6,10,17,19,20,103,121] (λk=>[(7,str (tH (cs.take k.1))),(21,iv k.1)]) (λk w'=>k.1<=cs.length/\(∀c∈cs.take k.1,c.1=70->c.2.length=4)/\Pw Ku V2 k.2.2 (dw 0 (cs.take k.1))/\Rel W V [.row k.2.1 281 3 (k.2.2.flatMap Bt),.ay b6 (AG (uj (cs.take k.1)).1 (uj (cs.take k.1)).2.1 (uj (cs.take k.1)).2.2 ⟨none,0,0⟩ k.2.1) 174,.ay b2 (AG 0 0 0 ⟨none,0,0⟩ ⟨none,0,0⟩) 174] V2 w') (λk _=>cs.length-k.1) (0,⟨none,0,0⟩,[]) ?_;conv=>whnf
  refine⟨sB,⟨aa,ah,Pw.nil,H⟩,?_⟩;clear H;rintro⟨k,rn,os⟩w⟨hk,h4,hpw,H⟩;dsimp only at hk h4 hpw H;have dF:=hpw.len;have hnl:=IB (cs.take k) 0;rw[bg]at hnl;have ff:(tH (cs.take k)).length<=1000:=by have:=List.length_filter_le dA (cs.take k);rw[bg]at this;unfold tH;rw[aW];omega
  by_cases hlt:k<cs.length
  ·have mJ:k<ks.length:=aa;obtain⟨hp,jF,iA⟩:=hks.fF (g:=λx:sR=>bv x.1) (g':=λx:sR=>x.2.v) (λ_=>rfl) mJ;have s8:=uC.all k _ _ (bz mJ) (bz hlt);have HE:=hcl.2 _ (bS hlt);have t1:=PC hlt;generalize ks[k]=x at jF iA s8;obtain⟨xn,xs⟩:=x;obtain⟨hid,fS⟩:=s8;dsimp only at hid fS jF iA;obtain⟨c,gZ⟩:∃c,c=cs[k]:=⟨_,rfl⟩
   rw[<-gZ]at hid fS HE t1;have hxl:=fS.len;by_cases oc:c.1=70
   ·have gH:dA c=true:=(wb c).2 (.inl (by rw[oc];rfl));rw[hid,oc]at jF;by_cases hl4:c.2.length=4;rotate_left
    ·have:mj cs=none:=by
      unfold mj;cases D4:tK cs with
      | none=>rfl
      | some y =>
       obtain⟨f,d⟩:=y;have hfl:=Dg D4;have hm:c∈cs.filter dA:=y0.2 ⟨gZ▸bS hlt,gH⟩;rw[hfl]at hm;simp only[bP,tA,or_false]at hm;rcases hm with hm|hm
       ·rw[hm]at hl4;simp only;rw[ae];exact λh=>hl4 h.1
       rw[hm]at oc;cases oc
     rw[this];refine H.wg ?_;intro _ _ _ w H;exact⟨V2,⟨none,0,0⟩,⟨none,0,0⟩,hV2,H.sx,rfl⟩
    obtain⟨p0,d0⟩:=fS.iK (i:=0) aa;obtain⟨_,d1⟩:=fS.iK (i:=1) aa;obtain⟨_,d2⟩:=fS.iK (i:=2) aa;obtain⟨_,d3⟩:=fS.iK (i:=3) aa;have g0:at8 c.2 0<256:=dm _;have g1:at8 c.2 1<256:=dm _;have g2:at8 c.2 2<256:=dm _;have g3:at8 c.2 3<256:=dm _;have lK:=yU g0 g1;refine H.wg ?_;intro _ _ w H;refine dV 14 [] [0,1,2,3,4,5,6,7,8,9,10,11,12,13,14,15,16,17,18,19,20,21,22,23,24] H ?_;intro w H;refine wk ?_;rw[sJ];refine H.wg ?_;intro w H;rw[lK]at H;refine Rt av Tryz.underlying9 acu ?_;conv=>whnf
    refine And.intro (by simp only[aq,aK];omega) ?_;refine wk ?_;refine⟨sB,(k+1,rn,os),?_,⟨by dsimp only;omega,?_,?_,?_⟩,by dsimp only;omega⟩
    ·refine⟨?_,rfl,trivial⟩;rw[t1,Pr,ag gH,oc];rfl
    ·dsimp only;rw[t1];intro y hy uL;rcases cc.1 hy with hy|hy
     ·exact h4 y hy uL
     rw[cz.1 hy];exact hl4
    ·dsimp only;rw[t1,tq,ag gH,aZ];exact hpw
    dsimp only;rw[t1,LM];unfold fmtS;rw[ag oc];exact H.sx
   by_cases h68:c.1=68
   ·have gH:dA c=true:=(wb c).2 (.inr (by rw[h68];rfl));rw[hid,h68]at jF;refine H.wg ?_;intro _ _ w H;refine Rt av Tryz.underlying9 acs ?_;conv=>whnf
    refine And.intro (by simp only[aq,aK];omega) ?_;refine wk ?_;refine⟨sB,(k+1,rn,os),?_,⟨by dsimp only;omega,?_,?_,?_⟩,by dsimp only;omega⟩
    ·refine⟨?_,rfl,trivial⟩;rw[t1,Pr,ag gH,h68];rfl
    ·dsimp only;rw[t1];intro y hy uL;rcases cc.1 hy with hy|hy
     ·exact h4 y hy uL
     rw[cz.1 hy]at uL;exact absurd uL oc
    ·dsimp only;rw[t1,tq,ag gH,aZ];exact hpw
    dsimp only;rw[t1,LM];unfold fmtS;rw[ae oc];exact H.sx
   have n70:xn.toNat≠70:=λh=>oc (by rw[<-hid];exact bL.1 (by rw[h];rfl));have n68:xn.toNat≠68:=λh=>h68 (by rw[<-hid];exact bL.1 (by rw[h];rfl));have gH:¬dA c=true:=λh=>by have:=(wb c).1 h;rw[<-hid]at this;omega
   refine H.wg ?_;intro _ _ _ _ w H;refine Rel.eH (f:=Bt) (l:=os) (x:=(((k:Int),(xn,c.2)),xs)) rfl (λ_=>rfl) (bc.1 rfl) H (by simp;omega) aa ?_;intro rn w H;refine H.wg ?_;intro w H;refine⟨sB,(k+1,rn,os++[(((k:Int),(xn,c.2)),xs)]),?_,⟨by dsimp only;omega,?_,?_,?_⟩,by dsimp only;omega⟩
   ·refine⟨?_,rfl,trivial⟩;rw[t1,Pr,ae gH,aZ];rfl
   ·dsimp only;rw[t1];intro y hy uL;rcases cc.1 hy with hy|hy
    ·exact h4 y hy uL
    rw[cz.1 hy]at uL;exact absurd uL oc
   ·dsimp only;rw[t1,tq,ae gH];refine hpw.snoc ⟨?_,fS⟩;rw[bg,tB hk,dR,hid]
   dsimp only;rw[t1,LM];unfold fmtS;rw[ae oc];exact H.sx
  rw[bJ aa]at h4 hpw H;rw[bJ aa];refine H.wn ?_;intro w KJ H;refine wk ?_;refine Rel.abV (zs:=[70,68]) Tryz.underlying141 Tryz.underlying21 Tryz.underlying9 H rfl ?_;rw[acr];replace H:=H.pY;refine wk ?_;refine qX (λyz=>?_) (λyz=>?_)
  ·have:mj cs=none:=by rw[mj,ahs yz]
   rw[this];refine H.wg ?_;intro w H;exact⟨V2,⟨none,0,0⟩,⟨none,0,0⟩,hV2,H.sx,rfl⟩
  obtain⟨f,d,hfl⟩:=ajS yz;have D4:=Ws hfl;have hcs:mj cs=if vC f d then some (FH f d (dw 0 cs))else none:=by rw[mj,D4]
  have HU:uj cs=(256*at8 f 0+at8 f 1,at8 f 2,at8 f 3):=by rw[ade,hfl];rfl
  have A3:f.length=4:=h4 (70,f) (y0.1 (by rw[hfl];simp:((70,f):cu)∈cs.filter dA)).1 rfl;have hdl:=GY (c:=(68,d)) (by rw[hfl];simp);have hbl:(cs.flatMap rX).length<=1000:=by
   unfold kQ at hc;split at hc
   ·obtain⟨h1,h2⟩:=CX _ _ _ (aQ _) hc;have h3:=ax bU h1;simp only[ak,aU,aq,aK]at h3;omega
   cases hc
  rw[HU]at H;dsimp only at H;have g0:at8 f 0<256:=dm _;have g1:at8 f 1<256:=dm _;have g2:at8 f 2<256:=dm _;have g3:at8 f 3<256:=dm _;by_cases q1:at8 f 2<1
  ·rw[hcs,ae (λh=>by have:=h.2.1;omega)];refine H.wg ?_;intro w H;exact⟨V2,⟨none,0,0⟩,⟨none,0,0⟩,hV2,H.sx,rfl⟩
  by_cases q2:2<at8 f 2
  ·rw[hcs,ae (λh=>by have:=h.2.1;omega)];refine H.wg ?_;intro w H;exact⟨V2,⟨none,0,0⟩,⟨none,0,0⟩,hV2,H.sx,rfl⟩
  by_cases q3:4<=at8 f 3
  ·rw[hcs,ae (λh=>by have:=h.2.2.1;omega)];refine H.wg ?_;intro w H;exact⟨V2,⟨none,0,0⟩,⟨none,0,0⟩,hV2,H.sx,rfl⟩
  obtain⟨i,hi,Mw,hbe⟩:=ab5 hfl;have qe:i<ks.length:=aa;have Uo:=uC.all i _ _ (bz qe) (bz hi);obtain⟨hp,jF,iA⟩:=hks.fF (g:=λx:sR=>bv x.1) (g':=λx:sR=>x.2.v) (λ_=>rfl) qe;have fS:=Uo.data;rw[Mw]at fS;dsimp only at fS hdl;refine wk ?_;refine(ab4 H.data hks aa qe (by rw[Uo.id,Mw]) (λk hk tf=>by rw[(uC.all k _ _ (bz tf) (bz aa)).id];exact hbe k hk aa)).use ?_
  rintro v w⟨rfl,K⟩;replace H:=H.bd K;have TY:=fS.len;refine wk ?_;refine dV 22 [4] [0,1,2,3,5,6,7,4,8,9,10] H ?_;intro w H;refine wk ((oP H.data (256*at8 f 0+at8 f 1) (at8 f 2) (at8 f 3)).use ?_);rintro v w⟨rfl,K⟩;replace H:=H.bd K;refine wk ?_;obtain⟨M,hM⟩:∃M,M=(at8 f 3%2+1)*at8 f 2:=⟨_,rfl⟩
  have Dt:1<=M/\M<=4:=by rcases(by omega:at8 f 2=1\/at8 f 2=2)with h|h<;>rw[h]at hM<;>omega
  rw[<-Int.natCast_mul,<-hM];have aeq:((ks[i].2.len:Nat):Int)%(M:Int)=((d.length%M:Nat):Int):=by rw[TY];exact(Int.natCast_emod _ _).symm
  by_cases hm:d.length%M=0;rotate_left
  ·rw[hcs,ae (λh=>hm (by rw[hM];exact h.2.2.2))];refine H.wg ?_;intro w H;exact⟨V2,⟨none,0,0⟩,⟨none,0,0⟩,hV2,H.sx,rfl⟩
  have hok:vC f d:=⟨A3,aa,aa,by rw[<-hM];exact hm⟩
  rw[hcs,ag hok];refine wk ?_;refine(acf (rate:=256*at8 f 0+at8 f 1) (ch:=at8 f 2) (coding:=at8 f 3) H.data aa aa fS aa (λhw=>SP (by rw[<-hM];exact hm) (by simpa [aH]using hw))).use ?_;rintro v w⟨rs,rfl,K⟩;replace H:=H.cq K;refine H.wg ?_;intro _ w H;obtain⟨V3,aw,H,bI⟩:=Rel.aJ H;obtain⟨V4,ar,H,yx⟩:=Rel.aJ H;exact⟨V4,rs,rn,(hV2.trans aw).trans ar,H.sx,rfl,bI.up ar,os,yx,hpw.up (λ_ _ _ _ hs h=>⟨h.1,h.2.up hs⟩) (aw.trans ar)⟩
abbrev VP:=VH×Sl
abbrev rO(p:VP):aC:=[iv p.1.k,iv p.1.n,p.1.bs.v,p.1.ss.v,p.1.pl.v,p.2.v]
abbrev Bp(p:VP):aC:=a8 p.1
abbrev Bo(p:VP):aC:=[p.2.v]
structure nU(V:ad)(p:VP)(q:ao×Nat):Prop where
 val:cb V p.1 q.1
 path:∃l:List Int,aA bN V p.2 l/\l.length=q.2
theorem nU.up(V V':ad)(x:VP)(y:ao×Nat)(hs:Sub V V')(h:nU V x y):nU V' x y:=by obtain⟨l,h1,h2⟩:=h.path;exact⟨h.val.up hs,l,h1.up hs,h2⟩
abbrev I3(p:ao×Nat):List (ao×Nat):=pre p.2 p.1
theorem Pw.last{R:ad->β->α->Prop}{xs:List β}{ys:List α}{x:β}{y:α}(h:Pw R V (xs++[x]) (ys++[y])):Pw R V xs ys/\R V x y:=by
 have hl:xs.length=ys.length:=by simpa using h.len
 refine⟨⟨hl,λk a b h1 h2=>?_⟩,?_⟩
 ·have g1:=(dH.1 h1).1;exact h.all k a b (by rw[qx g1];exact h1) (by rw[qx aa];exact h2)
 exact h.all xs.length x y ah (by rw[hl];simp)
theorem U9{l:List α}(h:l.length≠0):∃i x,l=i++[x]:=by
 rcases List.eq_nil_or_concat l with rfl|⟨i,x,rfl⟩
 ·simp at h
 exact⟨i,x,ah⟩
def kq(ps:List ao)(d t:Nat):List (ao×Nat):=(ps.drop t).reverse.map λp=>(p,d+1)
theorem WK{ps:List ao}{t:Nat}(ht:t<ps.length):kq ps d t=kq ps d (t+1)++[(ps[t],d+1)]:=by unfold kq;rw[dk ht];simp only[ah0,dU,fO,lk]
theorem WJ(ps:List ao)(d:Nat):(kq ps d 0).reverse.flatMap I3=ps.flatMap (pre (d+1)):=by unfold kq;rw[lj,<-List.map_reverse,List.reverse_reverse,se]
theorem agE(hV:Sub V W){h:VH}{v:ao}(hv:cb V h v)(hB:VB 1048576 v):aB 105 [gw h,iv 601] W λq w'=>∃(V':ad) (r r':Sl) (os:List VP),Sub V V'/\Rel W V [] V' w'/\q=.tuple #[r.v,r'.v]/\aA Bp V' r os/\aA Bo V' r' os/\Pw nU V' os ((pre 0 v).take 601):=by
 have H:=aG hV;refine eV Tryz.func105 84 [0,1,2,4,5,6,7,8,9,10,11,12,24,49,56,61] ?_;refine H.wn ?_;intro w b2 H;refine H.wn ?_;intro w b6 H;replace H:Rel W V [.ay b6 (rO (h,⟨none,0,0⟩)) 235] V w:=H.sx;have H2:=H.gh (n:=1) (sz:=6) rfl ai;replace H:Rel W V [.row ⟨some ⟨b6,0,none⟩,1,1⟩ 235 6 (([(h,⟨none,0,0⟩)]:List VP).flatMap rO)] V w:=H2;clear H2;replace H:=H.br 50 1;replace H:=H.br 27 5;refine wk ?_;have Ba:aA bN V ⟨none,0,0⟩ ([]:List Int):=aA.nil _ _;refine aP (S:=Sl×Sl×Sl×List VP×List (ao×Nat)×List VP×List (ao×Nat)) al [0,1,2,4,5] (λk=>[(6,k.1.v),(7,k.2.1.v),(8,k.2.2.1.v)]) (λk w'=>k.2.2.2.2.2.2++k.2.2.2.2.1.reverse.flatMap I3=pre 0 v/\k.2.2.2.2.2.2.length<=601/\k.2.2.2.2.1.length<=1+k.2.2.2.2.2.2.length*601/\(∀p∈k.2.2.2.2.1,VB 1048576 p.1)/\∃V1,Sub V V1/\Pw nU V1 k.2.2.2.1 k.2.2.2.2.1/\Pw nU V1 k.2.2.2.2.2.1 k.2.2.2.2.2.2/\Rel W V [.row k.2.1 27 5 (k.2.2.2.2.2.1.flatMap Bp),.row k.2.2.1 50 1 (k.2.2.2.2.2.1.flatMap Bo),.row k.1 235 6 (k.2.2.2.1.flatMap rO)] V1 w') (λk _=>601-k.2.2.2.2.2.2.length) (⟨some ⟨b6,0,none⟩,1,1⟩,⟨none,0,0⟩,⟨none,0,0⟩,[(h,⟨none,0,0⟩)],[(v,0)],[],[]) ?_;conv=>whnf
 refine⟨sB,⟨ah,ah,ah,by simpa using hB,V,aS _,⟨rfl,λk x y h1 h2=>?_⟩,Pw.nil,H⟩,?_⟩
 ·cases k with
  | zero=>cases h1;cases h2;exact⟨hv,[],Ba,rfl⟩
  | succ k=>simp at h1
 clear H;rintro⟨r6,r7,r8,stk,sv,os,ov⟩w⟨hpre,dF,fu,hvb,V1,hV1,hps,hpo,H⟩;dsimp only at hpre dF fu hvb hps hpo H |-;have Nk:=H.cV (i:=2) rfl (λ_=>rfl) ai;have hs7:=H.cV (i:=0) rfl (λ_=>rfl) ai;have MM:=Nk.len;have amV:=Nk.cap;have hl7:=hs7.len;have MQ:=hps.len;have uD:=hpo.len;have fin:(stk=[]\/601<=ov.length)->(pre 0 v).take 601=ov:=by
  intro hc;rw[<-hpre];rcases hc with rfl|hc
  ·have:sv=[]:=dt (by rw[<-MQ];rfl);subst this;simp only[List.reverse_nil,eL,aZ];exact bJ dF
  exact E9 aa
 by_cases hst:stk.length=0
 ·have DZ:stk=[]:=dt hst;refine wk ?_;obtain⟨V2,hV2,H,h7⟩:=Rel.aJ H;obtain⟨V3,aw,H,h8⟩:=Rel.aJ H;refine wk ?_;exact⟨V3,r7,r8,os,hV1.trans (hV2.trans aw),H.sx,rfl,h7.up aw,h8,by rw[fin (.inl DZ)];exact hpo.up nU.up (hV2.trans aw)⟩
 by_cases MZ:601<=ov.length
 ·refine wk ?_;obtain⟨V2,hV2,H,h7⟩:=Rel.aJ H;obtain⟨V3,aw,H,h8⟩:=Rel.aJ H;refine wk ?_;exact⟨V3,r7,r8,os,hV1.trans (hV2.trans aw),H.sx,rfl,h7.up aw,h8,by rw[fin (.inr MZ)];exact hpo.up nU.up (hV2.trans aw)⟩
 obtain⟨si,p,rfl⟩:=U9 hst;obtain⟨zy,q,rfl⟩:=U9 (l:=sv) (by rw[<-MQ];exact hst);obtain⟨D2,hpq⟩:=hps.last;clear fin;obtain⟨x,path⟩:=p;obtain⟨u,d⟩:=q;obtain⟨hx,pl,D3,H9⟩:=hpq;dsimp only at hx D3 H9;have hub:VB 1048576 u:=hvb (u,d) ah;have am6:=D3.len;have qk:=hub.parts;have aeD:=hx.uW;simp only[ak,aq,aK]at MM MQ fu;have vS:(si++[(x,path)])[r6.len-1]'(by simp;omega)=(x,path):=by have:r6.len-1=si.length:=aa;simp only[this,List.getElem_append_right (aQ _),Nat.sub_self,qA]
 obtain⟨g1,g2⟩:=Nk.get (n:=6) (λ_=>rfl) aa (i:=r6.len-1) (by simp;omega);rw[vS]at g2;have ei:((r6.len:Int)-1).toNat=r6.len-1:=aa;rw[<-ei]at g2;have q0:=g2 0 _ rfl;have q1:=g2 1 _ rfl;have q2:=g2 2 _ rfl;have q3:=g2 3 _ rfl;have q4:=g2 4 _ rfl;have q5:=g2 5 _ rfl;refine H.wn ?_;intro w b9 H;refine H.wh ?_;intro w H;have hsh:=H.Ya (i:=3) rfl (k:=((r6.len:Int)-1).toNat) aa;rw[show(si++[(x,path)]).flatMap rO=si.flatMap rO++rO (x,path)by simp]at hsh;rw[E9 (by rw[kW (n:=6) (λ_=>rfl)];congr 1;omega)]at hsh;replace H:Rel W V [.ay b9 [iv x.k,iv x.n,x.bs.v,x.ss.v,x.pl.v,path.v] 235,.row r7 27 5 (os.flatMap Bp),.row r8 50 1 (os.flatMap Bo),.row ⟨bo r6.a 0 r6.cap 6,((r6.len:Int)-1).toNat-0,r6.cap-0⟩ 235 6 (si.flatMap rO)] V1 w:=hsh;clear hsh;have Bc:(ov++[(u,d)])++((if 10<d then[]else(u.parts.take 601).flatMap (pre (d+1)))++zy.reverse.flatMap I3)=pre 0 v:=by rw[<-hpre,Xa,cw];simp only[ah0,List.reverse_nil,aL,bD,eL,aZ,I3];rw[wB d u];simp
 have Nq:∀p∈zy,VB 1048576 p.1:=λp hp=>hvb p (by simp[hp]);have Na:=hpo.snoc (x:=(x,path)) (y:=(u,d)) ⟨hx,pl,D3,H9⟩;refine H.wn ?_;intro w bt H;refine wk ?_;refine Rel.eH (f:=Bp) (l:=os) (x:=(x,path)) rfl (λ_=>rfl) (bc.1 rfl) H (by simp;omega) aa ?_;intro Fv w H;refine H.wn ?_;intro w bt2 H;refine wk ?_;refine Rel.ub (f:=Bo) (l:=os) (x:=(x,path)) rfl (λ_=>rfl) (bc.1 rfl) H (by simp;omega) aa ?_;intro pH w H;by_cases hd:10<d
 ·rw[ag hd,aL]at Bc;refine wk ?_;refine⟨sB,(⟨bo r6.a 0 r6.cap 6,((r6.len:Int)-1).toNat-0,r6.cap-0⟩,Fv,pH,si,zy,os++[(x,path)],ov++[(u,d)]),?_,⟨Bc,by simp;omega,by simp;omega,Nq,V1,hV1,D2,Na,H.sx⟩,by simp;omega⟩;exact⟨rfl,rfl,rfl,trivial⟩
 rw[ae hd]at Bc;obtain⟨ps,D5⟩:∃ps,ps=u.parts.take 601:=⟨_,rfl⟩
 have UA:ps.length=min u.parts.length 601:=by rw[D5,bg];omega
 rw[<-D5]at Bc;have hel:∀t (ht:t<ps.length),∃h2:t<u.parts.length,ps[t]=u.parts[t]:=λt ht=>⟨aa,by subst D5;simp⟩
 by_cases amK:601<u.parts.length
 ·refine wk ?_;refine aP (S:=Nat×Sl×List VP) al [0,1,2,4,5,7,8,9,10,24,49,56] (λk=>[(6,k.2.1.v),(11,.int .i64 ((k.1:Int)-1))]) (λk w'=>k.1<=ps.length/\∃V2,Sub V1 V2/\Pw nU V2 k.2.2 (zy++kq ps d k.1)/\Rel W V [.ay b9 [iv x.k,iv x.n,x.bs.v,x.ss.v,x.pl.v,path.v] 235,.row Fv 27 5 ((os++[(x,path)]).flatMap Bp),.row pH 50 1 ((os++[(x,path)]).flatMap Bo),.row k.2.1 235 6 (k.2.2.flatMap rO)] V2 w') (λk _=>k.1) (ps.length,⟨bo r6.a 0 r6.cap 6,((r6.len:Int)-1).toNat-0,r6.cap-0⟩,si) ?_;conv=>whnf
  refine⟨⟨rfl,?_,trivial⟩,⟨aQ _,V1,aS _,?_,H.sx⟩,?_⟩
  ·exact ax (λz=>some (bO .i64 z)) (by dsimp only;omega)
  ·have:kq ps d ps.length=[]:=by simp[kq]
   rw[this,aZ];exact D2
  clear H;rintro⟨t,r,stk⟩w⟨ht,V2,hV2,hpk,H⟩;dsimp only at ht hpk H;by_cases ht0:t=0
  ·subst ht0;refine wk ?_;refine⟨sB,(r,Fv,pH,stk,zy++kq ps d 0,os++[(x,path)],ov++[(u,d)]),sB,⟨?_,by simp;omega,?_,?_,V2,hV1.trans hV2,hpk,Na.up nU.up hV2,H.sx⟩,by simp;omega⟩
   ·rw[Xa,cw,WJ];exact Bc
   ·simp only[ak,kq,aW,ah1,aU,aq,aK];omega
   intro p hp;rcases cc.1 hp with hp|hp
   ·exact Nq p hp
   simp only[kq,lj,cJ,List.mem_reverse]at hp;obtain⟨y,hy,rfl⟩:=hp;exact hub.part y (by rw[D5]at hy;exact nG hy)
  obtain⟨t,rfl⟩:∃t',t=t'+1:=⟨t-1,aa⟩
  obtain⟨jG,yG⟩:=hel t aa;have yA:=H.cV (i:=3) rfl (λ_=>rfl) ai;have aeL:=yA.len;have M7:=hpk.len;have Nb:(kq ps d (t+1)).length=ps.length-(t+1):=by simp[kq]
  rw[ak,Nb]at M7;obtain⟨hp,y,hy,z0,z1,z2,z3,z4⟩:=(hx.up hV2).wu jG;have M8:=D3.up hV2;have et:(((t+1:Nat):Int)-1)=(t:Int):=aa;rw[et];refine wk ?_;replace H:=H.br 3 1;refine Rel.QQ (s:=⟨none,0,0⟩) (x:=path) (xs:=[]) (ys:=pl) H (i:=0) rfl M8 (by simp;omega) ?_;intro rp w H;refine wk ?_;refine dS (id:=18) (zo rp) [9,10] [3,6] [0,1,2,3,4,5,6,7,8,9,10,11,12,13,14] H ?_;intro w H;refine wk ?_;refine And.intro (λw1 ma=>?_) ?_;focus (obtain⟨_,H1⟩:=Rel.JM H (i:=0) rfl ma;clear H;have H:=H1;clear H1;((repeat ((conv=>whnf);first|refine an ?_|((first|refine H.qo ?_|refine H.nw ?_);intro w _ H)|refine H.ce ?_|refine H.db ?_|refine ea ?_|refine ol ?_|(refine H.st ?_;(conv=>whnf);intro w H)|refine cT ?_|refine cF ?_|refine cN ?_|refine cM ?_|refine H.lw ?_|refine H.ll ?_));(conv=>whnf));try exact⟨rfl,rfl⟩)
  refine wk ?_;refine And.intro (λw1 ma=>?_) ?_;focus (obtain⟨_,H1⟩:=Rel.JM H (i:=0) rfl ma;clear H;have H:=H1;clear H1;((repeat ((conv=>whnf);first|refine an ?_|((first|refine H.qo ?_|refine H.nw ?_);intro w _ H)|refine H.ce ?_|refine H.db ?_|refine ea ?_|refine ol ?_|(refine H.st ?_;(conv=>whnf);intro w H)|refine cT ?_|refine cF ?_|refine cN ?_|refine cM ?_|refine H.lw ?_|refine H.ll ?_));(conv=>whnf));try exact⟨rfl,rfl⟩)
  refine wk ?_;refine Rel.VW H ?_;intro w bi H;refine wk ?_;refine Rel.QP (f:=bN) (l:=[]++pl) (x:=(t:Int)) al rfl rfl rfl rfl rfl ai (λ_=>rfl) (bc.1 rfl) H (i:=0) rfl (by simp;omega) (by simp;omega) ?_;intro Fy w H;obtain⟨V3,aw,H,l8⟩:=Rel.aJ H;refine H.wn ?_;intro w bn H;refine wk ?_;refine Rel.xk (f:=rO) (l:=stk) (x:=(y,Fy)) rfl (λ_=>rfl) (bc.1 rfl) H (by simp;omega) aa ?_;intro rk w H;refine wk ?_;refine⟨sB,(t,rk,stk++[(y,Fy)]),?_,⟨aa,V3,hV2.trans aw,?_,H.sx⟩,aa⟩
  ·exact⟨rfl,rfl,trivial⟩
  dsimp only;rw[WK aa,<-bj];exact(hpk.up nU.up aw).snoc ⟨by rw[yG];exact hy.up aw,_,l8,by simp;omega⟩
 refine wk ?_;refine aP (S:=Nat×Sl×List VP) al [0,1,2,4,5,7,8,9,10,24,49,56] (λk=>[(6,k.2.1.v),(11,.int .i64 ((k.1:Int)-1))]) (λk w'=>k.1<=ps.length/\∃V2,Sub V1 V2/\Pw nU V2 k.2.2 (zy++kq ps d k.1)/\Rel W V [.ay b9 [iv x.k,iv x.n,x.bs.v,x.ss.v,x.pl.v,path.v] 235,.row Fv 27 5 ((os++[(x,path)]).flatMap Bp),.row pH 50 1 ((os++[(x,path)]).flatMap Bo),.row k.2.1 235 6 (k.2.2.flatMap rO)] V2 w') (λk _=>k.1) (ps.length,⟨bo r6.a 0 r6.cap 6,((r6.len:Int)-1).toNat-0,r6.cap-0⟩,si) ?_;conv=>whnf
 refine⟨⟨rfl,?_,trivial⟩,⟨aQ _,V1,aS _,?_,H.sx⟩,?_⟩
 ·exact ax (λz=>some (bO .i64 z)) (by dsimp only;omega)
 ·have:kq ps d ps.length=[]:=by simp[kq]
  rw[this,aZ];exact D2
 clear H;rintro⟨t,r,stk⟩w⟨ht,V2,hV2,hpk,H⟩;dsimp only at ht hpk H;by_cases ht0:t=0
 ·subst ht0;refine wk ?_;refine⟨sB,(r,Fv,pH,stk,zy++kq ps d 0,os++[(x,path)],ov++[(u,d)]),sB,⟨?_,by simp;omega,?_,?_,V2,hV1.trans hV2,hpk,Na.up nU.up hV2,H.sx⟩,by simp;omega⟩
  ·rw[Xa,cw,WJ];exact Bc
  ·simp only[ak,kq,aW,ah1,aU,aq,aK];omega
  intro p hp;rcases cc.1 hp with hp|hp
  ·exact Nq p hp
  simp only[kq,lj,cJ,List.mem_reverse]at hp;obtain⟨y,hy,rfl⟩:=hp;exact hub.part y (by rw[D5]at hy;exact nG hy)
 obtain⟨t,rfl⟩:∃t',t=t'+1:=⟨t-1,aa⟩
 obtain⟨jG,yG⟩:=hel t aa;have yA:=H.cV (i:=3) rfl (λ_=>rfl) ai;have aeL:=yA.len;have M7:=hpk.len;have Nb:(kq ps d (t+1)).length=ps.length-(t+1):=by simp[kq]
 rw[ak,Nb]at M7;obtain⟨hp,y,hy,z0,z1,z2,z3,z4⟩:=(hx.up hV2).wu jG;have M8:=D3.up hV2;have et:(((t+1:Nat):Int)-1)=(t:Int):=aa;rw[et];refine wk ?_;replace H:=H.br 3 1;refine Rel.QQ (s:=⟨none,0,0⟩) (x:=path) (xs:=[]) (ys:=pl) H (i:=0) rfl M8 (by simp;omega) ?_;intro rp w H;refine wk ?_;refine dS (id:=18) (zo rp) [9,10] [3,6] [0,1,2,3,4,5,6,7,8,9,10,11,12,13,14] H ?_;intro w H;refine wk ?_;refine And.intro (λw1 ma=>?_) ?_;focus (obtain⟨_,H1⟩:=Rel.JM H (i:=0) rfl ma;clear H;have H:=H1;clear H1;((repeat ((conv=>whnf);first|refine an ?_|((first|refine H.qo ?_|refine H.nw ?_);intro w _ H)|refine H.ce ?_|refine H.db ?_|refine ea ?_|refine ol ?_|(refine H.st ?_;(conv=>whnf);intro w H)|refine cT ?_|refine cF ?_|refine cN ?_|refine cM ?_|refine H.lw ?_|refine H.ll ?_));(conv=>whnf));try exact⟨rfl,rfl⟩)
 refine wk ?_;refine And.intro (λw1 ma=>?_) ?_;focus (obtain⟨_,H1⟩:=Rel.JM H (i:=0) rfl ma;clear H;have H:=H1;clear H1;((repeat ((conv=>whnf);first|refine an ?_|((first|refine H.qo ?_|refine H.nw ?_);intro w _ H)|refine H.ce ?_|refine H.db ?_|refine ea ?_|refine ol ?_|(refine H.st ?_;(conv=>whnf);intro w H)|refine cT ?_|refine cF ?_|refine cN ?_|refine cM ?_|refine H.lw ?_|refine H.ll ?_));(conv=>whnf));try exact⟨rfl,rfl⟩)
 refine wk ?_;refine Rel.VW H ?_;intro w bi H;refine wk ?_;refine Rel.QP (f:=bN) (l:=[]++pl) (x:=(t:Int)) al rfl rfl rfl rfl rfl ai (λ_=>rfl) (bc.1 rfl) H (i:=0) rfl (by simp;omega) (by simp;omega) ?_;intro Fy w H;obtain⟨V3,aw,H,l8⟩:=Rel.aJ H;refine H.wn ?_;intro w bn H;refine wk ?_;refine Rel.xk (f:=rO) (l:=stk) (x:=(y,Fy)) rfl (λ_=>rfl) (bc.1 rfl) H (by simp;omega) aa ?_;intro rk w H;refine wk ?_;refine⟨sB,(t,rk,stk++[(y,Fy)]),?_,⟨aa,V3,hV2.trans aw,?_,H.sx⟩,aa⟩
 ·exact⟨rfl,rfl,trivial⟩
 dsimp only;rw[WK aa,<-bj];exact(hpk.up nU.up aw).snoc ⟨by rw[yG];exact hy.up aw,_,l8,by simp;omega⟩
theorem ajQ{L:List (ao×Nat)}{u:ao}(h:scan (L.take i) 0=.ok i)(hi:L[i]?=some (u,d))(hc:gy u i d≠0):scan L 0=.error (gy u i d,(i:Int)):=by
 have hlt:=(dH.1 hi).1;have he:=(dH.1 hi).2;conv=>lhs;rw[<-eW i L,zq,h]
 rw[dk hlt,he];simp only[scan];rw[ag hc]
theorem ajP{L:List (ao×Nat)}{u:ao}(h:scan (L.take i) 0=.ok i)(hi:L[i]?=some (u,d))(hc:gy u i d=0):scan (L.take (i+1)) 0=.ok (i+1):=by have hlt:=(dH.1 hi).1;have he:=(dH.1 hi).2;rw[bK hlt,zq,h,he];simp only[scan];rw[ae (λh=>h hc)]
theorem ZD{v:ao}{u:ao}(h:scan (((pre 0 v).take 601).take i) 0=.ok i)(hi:((pre 0 v).take 601)[i]?=some (u,d))(hc:gy u i d≠0):ct v=(gy u i d,(i:Int)):=by have:=ajQ h hi hc;rw[X4]at this;unfold ct gz;rw[this]
theorem aml{v:ao}(h:scan ((pre 0 v).take 601) 0=.ok ((pre 0 v).take 601).length):(pre 0 v).take 601=pre 0 v/\ct v=(if 4000<sz (pre 0 v)then(14, -1)else(0,0))/\∀(i:Nat) u d,(pre 0 v)[i]?=some (u,d)->dP u=0:=by
 rw[X4]at h;have hb:=Ce _ _ _ h;have hub:=KS (v:=v) (d:=0) (n:=0) h;have hlen:(pre 0 v).length<=600:=aa;refine⟨bJ aa,?_,λi u d hi=>?_⟩
 ·have hc:gz 0 v 0=.ok ((pre 0 v).take 601).length:=h;unfold ct;rw[hc];simp only;rw[SD v hc];by_cases hs:4000<sz (pre 0 v)
  ·rw[ag hs,ag ((YA _).1 hs)]
  rw[ae hs,ae (λh=>hs ((YA _).2 h))]
 have:=hb.2 i u d hi;unfold gy at this;split at this
 ·cases this
 exact this
theorem akD(L:List (ao×Nat))(i:Nat):sz (L.take i)<=sz L:=by
 conv=>rhs;rw[<-eW i L]
 simp only[sz,dU,Je];omega
theorem akC{L:List (ao×Nat)}{u:ao}(hi:L[i]?=some (u,d)):sz (L.take (i+1))=sz (L.take i)+oB u:=by have hlt:=(dH.1 hi).1;have he:=(dH.1 hi).2;rw[bK hlt,he];simp[sz]
theorem w9{W:ad}(hV:Sub V W){h:VH}{v:ao}(hv:cb V h v)(hB:VB 1048576 v):aB 32 [gw h] W λq w'=>q=kV (ct v).1 (ct v).2/\Rel W V [] V w':=by
 have H:=aG hV;refine nX al Tryz.func32 rfl av 59 rfl ah [0,1,2,3,4,5,6,7,8,17,29,38,45,56] ?_;refine aM.cA al ?_;refine H.wn ?_;intro w b1 H;refine H.wn ?_;intro w b2 H;refine wk ?_;refine aM.cA al ?_;refine wk ((agE H.data hv hB).use ?_);rintro q w⟨V1,r,r',os,hV1,K,rfl,h7,h8,hpo⟩;replace H:=H.bd K;replace hv:=hv.up hV1;have hl7:=h7.len;have vR:=h8.len;have hpl:=hpo.len;have adE:((pre 0 v).take 601).length<=601:=by rw[bg];omega
 have hnb:∀(i:Nat) u d,((pre 0 v).take 601)[i]?=some (u,d)->VB 1048576 u:=λi u d hi=>WI v hB (u,d) (nG (List.mem_of_getElem? hi));obtain⟨L,hL⟩:∃L,L=(pre 0 v).take 601:=⟨_,rfl⟩
 rw[<-hL]at hpo hpl adE hnb;refine wk ?_;refine aM.lq al (λ_:Unit=>[(3,r.v),(4,r'.v),(1,.pointer (some ⟨b1,0,none⟩)),(2,.pointer (some ⟨b2,0,none⟩))]) (λ_ w'=>scan L 0=.ok L.length/\Rel W V [.ay b2 [iv 0,iv 0] 31] V1 w') ?_ ?_
 ·refine wk ?_;refine aP (S:=Nat) al [0,1,2,3,4,7,8,45,56] (λk=>[(5,iv k)]) (λk w'=>k<=L.length/\scan (L.take k) 0=.ok k/\Rel W V [.ay b2 [iv 0,iv 0] 31] V1 w') (λk _=>L.length-k) 0 ?_;conv=>whnf
  refine⟨sB,⟨aa,rfl,H.sx⟩,?_⟩;clear H;rintro k w⟨hk,l9,H⟩;by_cases hlt:k<L.length;rotate_left
  ·obtain rfl:k=L.length:=aa;rw[fA]at l9;refine wk ?_;exact⟨(),sB,l9,H.sx⟩
  have A6:k<os.length:=aa;obtain⟨g1,g2⟩:=h7.get (n:=5) (λ_=>rfl) aa A6;obtain⟨g3,g4⟩:=h8.oa (g:=λp:VP=>p.2.v) (λ_=>rfl) A6;obtain⟨u,d,fx⟩:∃u d,L[k]=(u,d):=⟨_,_,rfl⟩
  have o0:L[k]?=some (u,d):=by rw[bz hlt,fx]
  obtain⟨En,pl,lL,iz⟩:=hpo.all k os[k] (u,d) (bz A6) o0;generalize os[k]=x at *;obtain⟨x,path⟩:=x;dsimp only at g2 g4 En lL iz;have z0:=g2 0 _ rfl;have z1:=g2 1 _ rfl;have z2:=g2 2 _ rfl;have z3:=g2 3 _ rfl;have z4:=g2 4 _ rfl;have H9:=lL.len;have hub:=hnb k u d o0;by_cases hbad:600<=k\/10<=d
  ·have e1:gy u k d=2:=by rw[gy,ag hbad]
   have e2:ct v=(2,(k:Int)):=by rw[hL]at l9 o0;rw[ZD l9 o0 (by rw[e1];decide),e1]
   by_cases h6:600<=k
   all_goals
    refine wk (H.us (Gz H.data 2 k) ?_);intro w H;refine H.wg ?_;intro w H;rw[e2];exact⟨rfl,Rel.back H.sx⟩
  have e1:gy u k d=dP u:=by rw[gy,ae hbad]
  refine wk ?_;refine H.us (agC H.data En (hub.mono aa)) ?_;intro w H;by_cases hz:dP u=0
  ·refine wk ?_;exact⟨sB,k+1,sB,⟨aa,ajP l9 o0 (by rw[e1];exact hz),H.sx⟩,aa⟩
  have e2:ct v=(dP u,(k:Int)):=by rw[hL]at l9 o0;rw[ZD l9 o0 (by rw[e1];exact hz),e1]
  refine wk (H.us (Gz H.data (dP u) k) ?_);intro w H;refine H.wg ?_;intro w H;rw[e2];exact⟨rfl,Rel.back H.sx⟩
 clear H;rintro _ w⟨l9,H⟩;rw[hL]at l9;obtain⟨hLe,hvf,hnz⟩:=aml l9;rw[hLe]at hL;rw[<-hL]at hvf hnz;refine aM.cA al ?_;refine wk ?_;refine aM.cA al ?_;refine wk ?_;refine aP (S:=Nat×Nat) al [0,1,2,3,4,5,6,17,29,38] (λk=>[(7,iv k.2),(8,iv k.1)]) (λk w'=>k.1<=L.length/\k.2=sz (L.take k.1)/\k.2<=4000/\Rel W V [.ay b2 [iv 0,iv 0] 31] V1 w') (λk _=>L.length-k.1) (0,0) ?_;conv=>whnf
 refine⟨sB,⟨aa,rfl,aa,H.sx⟩,?_⟩;clear H;rintro⟨k,n⟩w⟨hk,hn,MT,H⟩;dsimp only at hk hn MT H;by_cases hlt:k<L.length;rotate_left
 ·rw[bJ aa]at hn;rw[ae aa]at hvf;refine wk ?_;refine aM.go al ?_;refine H.wg ?_;intro w H;rw[hvf];exact⟨rfl,Rel.back H.sx⟩
 have A6:k<os.length:=aa;obtain⟨g1,g2⟩:=h7.get (n:=5) (λ_=>rfl) aa A6;obtain⟨u,d,fx⟩:∃u d,L[k]=(u,d):=⟨_,_,rfl⟩
 have o0:L[k]?=some (u,d):=by rw[bz hlt,fx]
 obtain⟨En,pl,lL,iz⟩:=hpo.all k os[k] (u,d) (bz A6) o0;generalize os[k]=x at *;obtain⟨x,path⟩:=x;dsimp only at g2 En;have z0:=g2 0 _ rfl;have z1:=g2 1 _ rfl;have z2:=g2 2 _ rfl;have z3:=g2 3 _ rfl;have z4:=g2 4 _ rfl;have hub:=hnb k u d o0;have Nn:=akC o0;have fu:=akD L (k+1);have hns:=VN hub (hnz k u d o0);have hn5:oB u<=1100000:=by
  rcases VO u with h|h
  ·omega
  have:oB u<=rP u\/oB u=4001:=by
   unfold oB rP;split
   ·exact .inl (aQ _)
   split
   ·split
    ·exact .inr rfl
    exact .inl (aQ _)
   exact .inl (aQ _)
  omega
 refine wk (H.us (agD H.data En hub (hnz k u d o0)) ?_);intro w H;by_cases h4:4000<n+oB u
 ·rw[ag aa]at hvf;refine wk (H.us (Gz H.data 14 (-1)) ?_);intro w H;refine H.wg ?_;intro w H;rw[hvf];exact⟨rfl,Rel.back H.sx⟩
 refine wk ?_;exact⟨sB,(k+1,n+oB u),⟨rfl,rfl,trivial⟩,⟨aa,by dsimp only;omega,by dsimp only;omega,H.sx⟩,by dsimp only;omega⟩
abbrev zeroV:ao:=.mk 0 0 [] [] []
abbrev aV:VH:=⟨0,0,⟨none,0,0⟩,⟨none,0,0⟩,⟨none,0,0⟩⟩
theorem cG(V:ad):cb V aV zeroV:=.mk [] rfl rfl (aA.nil _ _) (aA.nil _ _) (aA.nil _ _) rfl (λi x p h=>by simp at h)
abbrev jo(n:Int):VH:=⟨1,n,⟨none,0,0⟩,⟨none,0,0⟩,⟨none,0,0⟩⟩
abbrev ft(s:Sl):VH:=⟨2,0,s,⟨none,0,0⟩,⟨none,0,0⟩⟩
theorem zK(V:ad)(n:Int):cb V (jo n) (.mk 1 n [] [] []):=.mk [] rfl rfl (aA.nil _ _) (aA.nil _ _) (aA.nil _ _) rfl (λi x p h=>by simp at h)
theorem tS{s:Sl}(h:aF V s b):cb V (ft s) (.mk 2 0 b [] []):=.mk [] rfl rfl h (aA.nil _ _) (aA.nil _ _) rfl (λi x p h=>by simp at h)
theorem Qh{ss pl:Sl}{ns:bf}{hs:List VH}{ps:List ao}(h1:aA cO V ss ns)(h2:aA a8 V pl hs)(h3:hs.length=ps.length)(h4:∀(i:Nat) x p,hs[i]?=some x->ps[i]?=some p->cb V x p) :
  cb V ⟨4,0,⟨none,0,0⟩,ss,pl⟩ (.mk 4 0 [] ns ps):=.mk hs rfl rfl (aA.nil _ _) h1 h2 h3 h4
theorem kj(n:Int)(h:0<=n/\n<=100:=by decide):cY n:=⟨aa,aa⟩
theorem Cu{n:Int}(h:cY n):VB B (.mk 1 n [] [] []):=.mk (kj 1) h (cE _) (cE _) ah (cE _) ah
theorem zL(h:b.length<=B):VB B (.mk 2 0 b [] []):=.mk (kj 2) (kj 0) h (cE _) ah (cE _) ah
theorem ame(B:Nat):VB B zeroV:=.mk (kj 0) (kj 0) (cE _) (cE _) ah (cE _) ah
theorem amc{v:ao}(h:VB 1048576 v):VB 1099511627776 v:=h.mono aa
structure Ky where
 v:ao
 r:ab
 c:Int
 i:Int
def cH(o:Option (ao×ab))(n:Nat):Ky:=if 1000<n then⟨zeroV,[],3, -1⟩else match o with
 | none=>⟨zeroV,[],21, -1⟩
 | some (v,r)=>⟨v,r,0,0⟩
structure mY(W V:ad)(x:Ky)(q:aj)(w':ad):Prop where
 ex:∃(V':ad) (h:VH) (r:Sl),Sub V V'/\Rel W V [] V' w'/\q=.tuple #[gw h,r.v,kV x.c x.i]/\cb V' h x.v/\aF V' r x.r
structure Ae(W V:ad)(o:Option (ao×ab))(q:aj)(w':ad):Prop where
 ex:∃(V':ad) (h:VH) (r:Sl) (v:ao) (b:ab),Sub V V'/\Rel W V [] V' w'/\cb V' h v/\aF V' r b/\(match o with
  | none=>q=.tuple #[gw h,r.v,.bool false]
  | some x=>q=.tuple #[gw h,r.v,.bool true]/\x=(v,b))
def q6(v:ao)(shape:Bool)(o:fV):ab×Int×Int:=if(ct v).1≠0 then([],ct v)else if shape=false then([],13,0)else match o with
 | none=>([],6, -2)
 | some b=>(b,0,0)
structure CC(W V:ad)(x:ab×Int×Int)(q:aj)(w':ad):Prop where
 ex:∃(V':ad) (r:Sl),Sub V V'/\Rel W V [] V' w'/\q=.tuple #[r.v,kV x.2.1 x.2.2]/\aF V' r x.1
abbrev pN:=ab×Int
inductive zZ:cx->aT->cx->Prop where
 | h {r:aT} {l:cx}:zZ (r::l) r l
 | t {x r:aT} {l k:cx}:zZ l r k->zZ (x::l) r (x::k)
inductive Aa:cx->cx->Prop where
 | z {l:cx}:Aa l []
 | s {l k o:cx} {r:aT}:zZ l r k->Aa k o->Aa l (r::o)
theorem zZ.perm{l k:cx}{r:aT}(h:zZ l r k):l.Perm (r::k):=by
 induction h with
 | h=>exact List.Perm.refl _
 | t _ ih=>exact(List.Perm.cons _ ih).trans (List.Perm.swap _ _ _)
theorem Aa.perm{l o:cx}(h:Aa l o):∃k,l.Perm (o++k):=by
 induction h with
 | @z l=>exact⟨l,List.Perm.refl _⟩
 | s h _ ih =>obtain⟨k,hk⟩:=ih;exact⟨k,h.perm.trans (List.Perm.cons _ hk)⟩
section
variable{w0 V0 V w:ad}{own:cx}
theorem Rel.pick(H:Rel w0 V0 own V w){o:cx}(h:Aa own o:=by repeat constructor):Rel w0 V0 o V w:=by obtain⟨k,hk⟩:=h.perm;have hm:∀r∈o,r∈own:=λr hr=>hk.mem_iff.2 (List.mem_append_left _ hr);exact⟨H.base,H.sub,H.old,λr hr=>H.laid r (hm r hr),λr hr=>H.new r (hm r hr),λr hr=>H.hid r (hm r hr),((hk.pairwise_iff (λh=>aT.VY h)).1 H.apart).sublist (List.sublist_append_left _ _),H.data⟩
theorem Rel.less(H:Rel w0 V0 own V w){U:ad}(h1:Sub V0 U)(h2:Sub U V):Rel w0 V0 own U w :=
 ⟨H.base,h1,λb hb hn c t f hc=>H.old b hb hn c t f (h2.cS b c t f hc),H.laid,H.new,λr hr b hb c t f hc=>H.hid r hr b hb c t f (h2.cS b c t f hc),H.apart,h2.trans H.data⟩
end
theorem akr(hT:cg C.P C.T){Rel:ad->ad->Prop}{ops:List Oper}{xs ys:au}{Q:Exit->Act->ad->Prop}{K:Env->ad->Prop}{Z:List PanicEntry->ad->Prop}{ds:List Deferred}{i:Nat}{rest:au}{r:qQ}{G:Act->ad->Prop}
  (hZ:∀(a:Act) w ch,a.tmps.size=C.n->a.defers=ds->Z ch w->Q (.panic ch) a w) (hr:∀env (a:Act) w,Sat env a.tmps->a.tmps.size=C.n->a.defers=ds->r env w K Z->G a w) {env:Env} {a:Act} {w:ad} (hs:Sat env a.tmps) (hn:a.tmps.size=C.n) (hd:a.defers=ds)
  (h:Bx C Rel ops xs ys i rest r env w K Z):∃o,ops[i]?=some o/\dI C ops xs ys Rel Q i o G a w:=by
 unfold Bx at h;obtain⟨o,ho,h⟩:=II h;refine⟨o,ho,?_⟩;simp only[dI];rcases AM h hs with⟨hw,aO,hs',h'⟩|⟨hw,aO,hs',h'⟩
 ·rw[ag hw];cases hq:mh C.T o.op with
  | true =>
   rw[ag rfl];obtain⟨v,h1,h2⟩:=Ko hT hs' hq h';obtain⟨_,h2⟩:=wV h2;obtain⟨hst,h2⟩:=wV h2;refine⟨v,λw1 hr1=>?_,?_⟩
   ·cases hrd:zm o.op with
    | false=>exact h1 w1 λh=>by simp[hrd]at h
    | true =>
     rcases hr1 hrd with⟨hi,Nd⟩|rfl
     ·exact ZF hT hs' hq (hst (uQ.2 hi) w1 Nd)
     exact h1 w1 λ_=>Ext.refl _
   obtain⟨e6,h3,h4,h5,h6⟩:=mQ h2 hs' hn;exact hr _ _ _ h3 h4 (h5.trans hd) h6
  | false =>rw[ae ah];refine zP hT hs' h' (λv w' hk=>?_) (λch w' hz=>hZ a w' ch hn hd hz);obtain⟨h1,h2⟩:=wV hk;refine⟨λhi=>h1 (uQ.2 hi),?_⟩;obtain⟨e6,h3,h4,h5,h6⟩:=mQ (wV h2).2 hs' hn;exact hr _ _ _ h3 h4 (h5.trans hd) h6
 rw[ae (by simp[hw])];obtain⟨e6,h3,h4,h5,h6⟩:=mQ h' hs' hn;exact hr _ _ _ h3 h4 (h5.trans hd) h6
def Og(C:Cx)(Rel:ad->ad->Prop)(ops:List Oper)(xs ys:au)(E:jw)(_:Nat)(_:au)(r:tY):tY:=λR env w K Z=>match R with
 | []=>K env w
 | i::rest=>match ot i E with
  | true=>oX (i::rest) (λj=>Bx C Rel ops xs ys j [] (r (uh j (i::rest))) env w K Z) E
  | false=>Bx C Rel ops xs ys i [] (r rest) env w K Z
noncomputable def F5(C:Cx)(Rel:ad->ad->Prop)(ops:List Oper)(xs ys:au)(E:jw)(l:au):tY:=List.rec (motive:=λ_=>tY) Wd (Og C Rel ops xs ys E) l
theorem ZA{C:Cx}(hT:cg C.P C.T){Rel:ad->ad->Prop}{ops:List Oper}{xs ys:au}{E:jw}{Q:Exit->Act->ad->Prop}{K:Env->ad->Prop}{Z:List PanicEntry->ad->Prop}{ds:List Deferred}
  (hQ:∀env (a:Act) w,Sat env a.tmps->a.tmps.size=C.n->a.defers=ds->K env w->Q .normal a w) (hZ:∀(a:Act) w ch,a.tmps.size=C.n->a.defers=ds->Z ch w->Q (.panic ch) a w) :
  ∀ {l R:au} {env:Env} {a:Act} {w:ad},Sat env a.tmps->a.tmps.size=C.n->a.defers=ds->F5 C Rel ops xs ys E l R env w K Z->iV C ops xs ys Rel Q E l.length R a w
 | [],R,env,a,w,hs,hn,hd,h=>hQ env a w hs hn hd h
 | f::l,[],env,a,w,hs,hn,hd,h=>hQ env a w hs hn hd h
 | f::l,i::rest,env,a,w,hs,hn,hd,h=>by
  have h:Og C Rel ops xs ys E f l (F5 C Rel ops xs ys E l) (i::rest) env w K Z:=h;have one:∀j R',Bx C Rel ops xs ys j [] (F5 C Rel ops xs ys E l R') env w K Z->∀o,ops[j]?=some o->dI C ops xs ys Rel Q j o (iV C ops xs ys Rel Q E l.length R') a w:=by intro j R' hj o ho;obtain⟨o',mK,h'⟩:=akr (ys:=ys) (G:=iV C ops xs ys Rel Q E l.length R') hT hZ (λenv a w h1 h2 h3 h4=>ZA hT hQ hZ h1 h2 h3 h4) hs hn hd hj;rw[ho]at mK;cases mK;exact h'
  unfold Og at h;simp only[aq,iV];cases he:ot i E with
  | false =>simp only[he]at h;exact one i rest h
  | true =>
   simp only[he]at h |-;have mono:∀(E':jw) (f g:Nat->Prop),(∀j,f j->g j)->oX (i::rest) f E'->oX (i::rest) g E':=by
    intro E' f g DR;induction E' with
    | nil=>exact λh=>h
    | cons p E' ih =>
     obtain⟨j,an⟩:=p;simp only[oX];split
     ·split
      ·exact λh=>⟨DR j h.1,ih h.2⟩
      exact DR j
     exact ih
   exact mono E _ _ (λj hj=>one j _ hj) h
theorem G5(hT:cg C.P C.T)(hm:C.P.follows .mixedOrders=true){id:Nat}{ops:Array Oper}{env:Env}{ds:List Deferred}{w:ad}{Q:iJ}(Rel:ad->ad->Prop)(hR:∀a b c:ad,Rel a b->Rel b c->Rel a c)(xs ys π:au)(E:jw)
  (hok:ES C.T ops.toList xs ys π E=true)
  (h:∀w1,CB w w1->F5 C Rel ops.toList xs ys E π π env w1 (λaO w'=>mO aO C.live λe'=>Q .normal e' ds w') (λch w'=>Q (.panic ch) [] ds w')) :
  aM C (.region id ops true) env ds w Q:=by
 refine⟨λa hs hn hd=>?_⟩;simp only[ES,Bool.and_eq_true,eQ]at hok;obtain⟨⟨⟨⟨⟨⟨ht,hp⟩,hall⟩,hlen⟩,yu⟩,yp⟩,hE⟩:=hok;have hmem:∀i,i<ops.toList.length->i∈π:=λi hi=>by simpa using bc.1 hall i (by simpa using hi)
 have key:=h { w with drawn:=w.drawn+1 } ⟨rfl,rfl,rfl,rfl,aQ _,λ_ _=>rfl⟩;let Q':Exit->Act->ad->Prop:=λe a' w'=>a'.tmps.size=C.n/\match e with
  | .panic ch=>Q (.panic ch) [] a'.defers w'
  | e=>∃aO,Sat aO a'.tmps/\Q e aO a'.defers w'
 refine wpIn_mono (Q:=Q') ?_ (λe a' w' hq=>?_)
 ·refine wpIn_region_any hm ?_;have hg:iV C ops.toList xs ys Rel Q' E π.length π a { w with drawn:=w.drawn+1 }:=by
   refine ZA hT (ds:=ds) (λaO a' w' h1 h2 h3 h4=>?_) (λa' w' ch h1 h2 h3=>?_) hs hn hd key
   ·obtain⟨e',h5,h6⟩:=tz h4;exact⟨h2,e',λt v ht=>h1 t v (h5 t v ht),h3▸h6⟩
   exact⟨h1,h2▸h3⟩
  have hlt:∀i∈π,i<ops.toList.length:=λi hi=>by simpa using bc.1 yp i hi
  have:=iV.any (C:=C) (ops:=ops.toList) (xs:=xs) (ys:=ys) (Rel:=Rel) (Q:=Q') hR (λd v ch a w hq=>by
   obtain⟨h1,h2⟩:=hq;refine⟨?_,?_⟩
   ·cases d<;>simpa [Act.put]using h1
   cases d<;>exact h2) (λi an hi x hx=>by simpa using bc.1 (bc.1 hE _ hi) x hx) ops.size π (Array.replicate ops.size false) a { w with drawn:=w.drawn+1 } (by simp[hlen]) yu ah (λi hi=>?_) hlt (λi o ho hl=>?_) ht hp hg
  ·simpa using this
  ·have:i<ops.size:=by simpa using hi
   simp[Array.getD,this,hmem i hi]
  have:i<ops.size:=by simpa using(dH.1 ho).1
  simp[Array.getD,this]at hl
 obtain⟨h1,h2⟩:=hq;cases e with
 | panic ch=>exact⟨h1,[],Sat.nil _,h2⟩
 | _=>exact⟨h1,h2⟩
structure Kv(V w w':ad):Prop where
 up:Sub V w->Sub V w'
theorem Kv.trans(a b c:ad)(h:Kv V a b)(k:Kv V b c):Kv V a c:=⟨λs=>k.up (h.up s)⟩
theorem Kv.of(H:Rel w0 V0 own V w'){w:ad}:Kv V w w':=⟨λ_=>H.data⟩
theorem Kv.go(H:Rel w0 V0 own V w'){w:ad}{p:Prop}(h:p):Kv V w w'/\p:=⟨Kv.of H,h⟩
theorem Kv.go2{U:ad}(H:Rel w0 V0 own V w')(hs:Sub U V){w:ad}{p:Prop}(h:p):Kv U w w'/\p:=⟨⟨λ_=>hs.trans H.data⟩,h⟩
theorem Kv.in(H:Rel w0 V0 own V w){w1:ad}(h:Kv V w w1):Rel w1 V [] V w1:=aG (h.up H.data)
theorem jI{A B:Prop}(h:B)(e:A:=by(intro w1 hkp;(first|have H:=Kv.in H hkp|have H:=Kv.in2 H (by assumption) hkp);((repeat ((conv=>whnf);first|refine an ?_|refine H.ce ?_|refine H.db ?_|refine ea ?_|refine ol ?_|fail|refine cT ?_|refine cF ?_|refine cN ?_|refine cM ?_|refine H.da (hc1 _ _ bX) ?_|refine H.jy hc1 bX ?_|refine H.jx hc1 bX ?_|refine H.da (hc2 _ _ bX) ?_|refine H.jy hc2 bX ?_|refine H.jx hc2 bX ?_|refine H.da (hc3 _ _ bX) ?_|refine H.jy hc3 bX ?_|refine H.jx hc3 bX ?_|refine H.da (hc4 _ _ bX) ?_|refine H.jy hc4 bX ?_|refine H.jx hc4 bX ?_|refine H.lw ?_|refine H.ll ?_));(conv=>whnf));all_goals (first|exact⟨rfl,rfl⟩|exact rfl))):A/\B:=⟨e,h⟩
theorem dX{live:au}{r:Option Nat}{id:Nat}{ops:Array Oper}{env:Env}{ds:List Deferred}{V1:ad}{Q:iJ}(V:ad)(xs ys π:au)(E:jw)(H:Rel w0 V0 own V1 w)
  (h:∀w1,Rel w0 V0 own V1 w1->F5 ⟨Tryz.prog,lB,n,live,r⟩ (Kv V) ops.toList xs ys E π π env w1 (λaO w'=>mO aO live λe'=>Q .normal e' ds w') (λch w'=>Q (.panic ch) [] ds w')) (hok:ES lB ops.toList xs ys π E=true:=by kernel_rfl) :
  aM ⟨Tryz.prog,lB,n,live,r⟩ (.region id ops true) env ds w Q:=G5 al mixed (Kv V) Kv.trans xs ys π E hok λw1 hd=>h w1 (H.ext hd.ext)
theorem aht(v:Int){a b:Int}(ha:a=v%256)(hb:b=v/256%256):[bO .u8 a,bO .u8 b]=(iI true (fK true v)).flatMap aI:=by have e1:a=(((v%65536).toNat%256:Nat):Int):=aa;have e2:b=(((v%65536).toNat/256:Nat):Int):=aa;rw[e1,e2];simp only[iI,fK,if_true,bD,eL,aI,bv,List.cons_append,aL];rw[dB aa,dB aa]
theorem akd(l:List Int)(x:Int):jL (l++[x])=jL l++iI true (fK true x):=by simp[jL]
theorem Yl(d:ab)(coding ch:Nat):(iT d coding ch).length<=d.length:=by unfold iT;rw[aW,oO,sA];split<;>omega
theorem Ym{x:vo}(hbl:b.length<=1099511627776)(h:oL b=some x):x.jc.length<=b.length/\x.notes.length<=b.length/\x.coding<4/\(1<=x.ch/\x.ch<=2)/\x.rate<=65535/\(∀y∈x.jc, -32768<=y/\y<=32767)/\∀n∈x.notes,cY n.1/\n.2.2.length<=65535:=by obtain⟨cs,f,d,S⟩:=Pz h;have hb:=ax bU S.bytes;have hfl:=Hg cs;have oh:=EK S.two;have hd:=GY (c:=(68,d)) (by rw[S.two];simp);have hv:=Yl d (at8 f 3) (at8 f 2);have b0:at8 f 0<256:=dm _;have b1:at8 f 1<256:=dm _;simp only[ak,aq,aK]at hb;dsimp only at hd;obtain⟨g1,g2,g3,g4⟩:=S.Hj;rw[S.eq];refine⟨by show(iT d (at8 f 3) (at8 f 2)).length<=_;omega,by show(dw 0 cs).length<=_;omega,g3,g2,by show 256*at8 f 0+at8 f 1<=_;omega,λy hy=>PB y hy,λn hn=>?_⟩;obtain⟨q1,q2,q3,q4⟩:=yT cs 0 n hn;have:=(S.ok _ q3).2.2;exact⟨⟨aa,aa⟩,aa⟩
theorem Yk{bn bp:Nat}{ch:Int}{r:Sl}(h1:Cells V (some ⟨bn,0,none⟩) [str FA,str Fz,str FB])(h2:Cells V (some ⟨bp,0,none⟩) (a8 (jo rate)++(a8 (jo ch)++a8 (ft r))))(h3:aF V r b) :
  cb V ⟨4,0,⟨none,0,0⟩,⟨some ⟨bn,0,none⟩,3,3⟩,⟨some ⟨bp,0,none⟩,3,3⟩⟩ (nL rate ch b):=by
 refine Qh (hs:=[jo rate,jo ch,ft r]) ⟨rfl,aQ _,h1⟩ ⟨rfl,aQ _,h2⟩ rfl λi x p hx hp=>?_;match i,hx,hp with
 | 0,hx,hp=>cases hx;cases hp;exact zK _ _
 | 1,hx,hp=>cases hx;cases hp;exact zK _ _
 | 2,hx,hp=>cases hx;cases hp;exact tS h3
 | k+3,hx,hp=>simp at hx
theorem Qk{ch:Int}(h1:cY rate)(h2:cY ch)(h3:b.length<=1048576):VB 1048576 (nL rate ch b):=by
 refine .mk (kj 4) (kj 0) (cE _) (by show 3<=1048576;decide) (λs hs=>?_) (by show 3<=1048576;decide) λp hp=>?_
 ·simp only[ao.names,bP,tA,or_false]at hs;rcases hs with rfl|rfl|rfl<;>decide
 simp only[ao.parts,bP,tA,or_false]at hp;rcases hp with rfl|rfl|rfl
 ·exact Cu h1
 ·exact Cu h2
 exact zL h3
theorem agT(hV:Sub V W)(n:Int):aB 145 [iv n] W λq w'=>q=gw (jo n)/\Rel W V [] V w':=by have H:=aG hV;refine eV Tryz.func145 5 [0,2] ?_;refine H.wn ?_;intro w b2 H;refine H.wg ?_;intro w H;exact H.sx
theorem ak1(hV:Sub V W){s:Sl}{l:ab}(hs:aF V s l)(hl:l.length<=1099511627776):aB 61 [s.v] W (mY W V (cH (gg l) l.length)):=by
 have H:=aG hV;have hlen:=hs.len;refine eV Tryz.func61 71 [0,2,3,4,5,6,7,9,10,11,14,23,27,28,29,30,60] ?_;refine H.wn ?_;intro w b2 H;refine H.wn ?_;intro w b4 H;by_cases dz:1000<l.length
 ·have e:cH (gg l) l.length=⟨zeroV,[],3, -1⟩:=by unfold cH;rw[ag dz]
  rw[e];refine wk (H.us (Ls H.data 3 (-1)) ?_);intro w H;refine H.wg ?_;intro _ w H;exact⟨V,aV,⟨none,0,0⟩,aS _,H.sx,rfl,cG _,aA.nil _ _⟩
 refine wk ?_;refine(aiW H.data hs aa).use ?_;rintro v w⟨V2,rs,rn,hV2,K,hres⟩;replace H:=H.bd K;cases hf:oL l with
 | none =>
  rw[hf]at hres;dsimp only at hres;subst hres;have e:cH (gg l) l.length=⟨zeroV,[],21, -1⟩:=by unfold cH;rw[ae dz,gg,hf]
  rw[e];refine H.wn ?_;intro w b5 H;refine H.wg ?_;intro w H;refine H.us (Ls H.data 21 (-1)) ?_;intro w H;refine H.wg ?_;intro _ w H;exact⟨V2,aV,⟨none,0,0⟩,hV2,H.sx,rfl,cG _,aA.nil _ _⟩
 | some x =>
  rw[hf]at hres;obtain⟨rfl,yD,hnt⟩:=hres;obtain⟨m1,m2,m3,m4,m5,m6,m7⟩:=Ym hl hf;have fu:=yD.len;have e:gg l=tI x:=by rw[gg,hf]
  rw[e];refine H.wn ?_;intro w b5 H;refine H.wg ?_;intro w H;replace H:=H.br 5 1;refine aP (S:=Nat×Sl) al [0,2,3,4,5,6,10,11,14,23,27,28,60] (λk=>[(7,k.2.v),(29,iv k.1)]) (λk w'=>k.1<=x.jc.length/\Rel W V [.row k.2 5 1 ((jL (x.jc.take k.1)).flatMap aI),.ay b5 (AG x.rate x.ch x.coding rs rn) 174,.ay b4 [iv 0,iv 0] 31,.ay b2 (a8 aV) 27] V2 w') (λk _=>x.jc.length-k.1) (0,⟨none,0,0⟩) ?_;conv=>whnf
  refine⟨sB,⟨aa,H.sx⟩,?_⟩;clear H;rintro⟨k,r⟩w⟨hk,H⟩;dsimp only at hk H;have hpl:=FI (x.jc.take k);rw[bg]at hpl;by_cases hlt:k<x.jc.length
  ·obtain⟨p0,d0⟩:=yD.aR (g:=iv) (λ_=>rfl) hlt;have t1:=PC hlt;have hy:=m6 _ (bS hlt);generalize x.jc[k]=y at d0 t1 hy;refine H.wg ?_;intro _ w H;rw[sJ];refine wk ?_;replace H:=H.cB (aht y rfl rfl);replace H:=H.gh (n:=2) (e:=5) (sz:=1) rfl (by simp[maxLen]);refine Rel.eB H (i:=0) rfl (by simp[iI];omega) ?_;intro r2 w H;rw[<-akd,<-t1]at H;refine wk ?_;exact⟨sB,(k+1,r2),sB,⟨by dsimp only;omega,H.sx⟩,by dsimp only;omega⟩
  rw[bJ aa]at H;obtain⟨V3,aw,H,hr⟩:=Rel.aJ H;refine wk ?_
  refine aM.C4 (λq:Nat×Nat×Nat=>[(2,.pointer (some ⟨b2,0,none⟩)),(3,.slice none 0 0),(4,.pointer (some ⟨b4,0,none⟩)),(5,.pointer (some ⟨b5,0,none⟩)),(11,.pointer (some ⟨q.1,0,none⟩))])
   (λq w'=>Rel W V [.ay q.2.1 [str FA,str Fz,str FB] 9,.ay q.2.2 (a8 (jo x.rate)++(a8 (jo x.ch)++a8 (ft r))) 27,.ay q.1 [iv 4,iv 0,.slice none 0 0,.slice (some ⟨q.2.1,0,none⟩) 3 3,.slice (some ⟨q.2.2,0,none⟩) 3 3] 27,.ay b5 (AG x.rate x.ch x.coding rs rn) 174,.ay b4 [iv 0,iv 0] 31,.ay b2 (a8 aV) 27] V3 w') ?_ ?_
  ·refine Li (id:=13) al mixed [0,5,15] [1,2,3,4,6,7,8,9,11,12,0,5,10,13,14,15,16] [(0,[]),(5,[]),(10,[5]),(13,[5,10]),(15,[]),(16,[0,5,10,13,15])] av ?_;intro w bG;replace H:=Rel.ext H bG.ext;repeat' ((first|(refine H.zQ ?_;intros;rename_i w H;constructor)|refine wk ?_);first|refine And.intro ?_ ?_|(refine H.nA ?_;intro w _ H)|(refine(agT H.data _).use ?_;rintro v w⟨rfl,K⟩;(replace H:=H.bd K)))
   all_goals
    refine H.wg ?_;intro w H;exact⟨(_,_,_),sB,H.pick⟩
  clear H;rintro⟨KG,bn,bp⟩w H;dsimp only at H;obtain⟨V4,ar,H,hbn⟩:=H.cU;obtain⟨V5,aN,H,DF⟩:=H.cU;have am4:=FI x.jc;have hv:=Yk (hbn.cells.tL aN) DF.cells ((hr.up ar).up aN);have hB:VB 1048576 (nL x.rate x.ch (jL x.jc)):=Qk (by constructor<;>omega) (by constructor<;>omega) aa;refine wk (H.us (Ct H.data hv hB) ?_);intro w H;by_cases hvf:(ct (nL x.rate x.ch (jL x.jc))).1=0;rotate_left
  ·have e:cH (tI x) l.length=⟨zeroV,[],21, -1⟩:=by unfold cH;rw[ae dz,tI,ag hvf]
   rw[e];refine wk (H.us (Ls H.data 21 (-1)) ?_);intro w H;refine H.wg ?_;intro _ w H;exact⟨V5,aV,⟨none,0,0⟩,((hV2.trans aw).trans ar).trans aN,H.sx,rfl,cG _,aA.nil _ _⟩
  have e:cH (tI x) l.length=⟨nL x.rate x.ch (jL x.jc),kR x.coding x.notes,0,0⟩:=by unfold cH;rw[ae dz,tI,ae (λh=>h hvf)]
  rw[e,zO hvf];refine wk ?_;refine dV 16 [6] [0,1,2,3,4,5,7,6,8,9,10] H ?_;intro w H;refine wk ?_;refine(ajd H.data m3 (((hnt.up aw).up ar).up aN) aa m7).use ?_;rintro v w⟨r2,rfl,K⟩;replace H:=H.cq K;refine H.wg ?_;intro _ w H;obtain⟨V6,bC,H,hr2⟩:=Rel.aJ H;exact⟨V6,_,r2,(((hV2.trans aw).trans ar).trans aN).trans bC,H.sx,rfl,hv.up bC,hr2⟩
def Q3(cs:List cu):Prop:=∃c∈cs,1000<c.2.length
instance(cs:List cu):Decidable (Q3 cs):=by unfold Q3;infer_instance
abbrev ajK:ab:=[99,111,100,105,110,103]
abbrev ajL:ab:=[111,116,104,101,114,32,99,104,117,110,107,115]
def Ew(c:Nat)(ns:List iW):List pN:=(if c≠1 then[(ajK,(c:Int))]else[])++(if ns≠[]then[(ajL,(ns.length:Int))]else[])
def Yh(b:ab):Option (List pN):=match FJ b with
 | none=>none
 | some (c,ns)=>some (Ew c ns)
theorem ahE(hV:Sub V W)(rate:Int){ch:Nat}(hch:1<=ch/\ch<=2){s:Sl}{l:List Int}(hs:aA bN V s l)(hl:l.length<=1000000)(hb:∀x∈l, -32768<=x/\x<=32767) :
  aB 79 [iv rate,iv ch,s.v] W λq w'=>∃(V':ad) (h:VH),Sub V V'/\Rel W V [] V' w'/\q=gw h/\cb V' h (nL rate ch (jL l)):=by
 have H:=aG hV;refine eV Tryz.func79 18 [0,1,2,6] ?_;refine H.wn ?_;intro w b6 H;refine H.wn ?_;intro w b7 H;refine wk ?_;refine(akl (coding:=1) H.data aa hch hs hl hb).use ?_;rintro q w⟨r,rfl,K⟩;replace H:=H.cq K;rw[Yg]at H;obtain⟨V2,hV2,H,hr⟩:=Rel.aJ H;obtain⟨V3,aw,H,j8⟩:=H.cU;refine H.wn ?_;intro w QV H;have H0:Rel W V [.ay QV (a8 (jo rate)++(a8 (jo ch)++a8 (ft r))) 27,.ay b6 (a8 aV) 27] V3 w:=H;obtain⟨V4,ar,H,adP⟩:=H0.cU;clear H0;refine H.wg ?_;intro w H;exact⟨V4,_,(hV2.trans aw).trans ar,H.sx,rfl,Yk (j8.cells.tL ar) adP.cells ((hr.up aw).up ar)⟩
theorem ahM(n:Int):az n≠[]:=λh=>by have:=qq (zz n);unfold az at h;rw[h]at this;simp at this
theorem akf :kR c ns=[]↔c=1/\ns=[]:=by
 unfold kR;split
 ·rename_i h;exact⟨λ_=>h,λ_=>rfl⟩
 rename_i h;exact⟨λh2=>absurd (BT.1 h2).1 (ahM _),λh2=>absurd h2 h⟩
theorem afL :Ew c ns=[]↔c=1/\ns=[]:=by
 unfold Ew;constructor
 ·intro h;obtain⟨h1,h2⟩:=BT.1 h;refine⟨E5 λhc=>?_,E5 λhn=>?_⟩
  ·rw[ag hc]at h1;cases h1
  rw[ag hn]at h2;cases h2
 rintro⟨rfl,rfl⟩;rfl
theorem akk{v:ao}(hl:b.length<=1000)(h:gg b=some (v,r)):VB 1048576 v/\(ct v).1=0/\(Ch v).isSome=true/\FG v r=some b/\r.length<=100000000/\∃ls,Yh r=some ls/\ls.length<=2/\(ls=[]↔r=[]):=by
 have fM:=akj hl h;obtain⟨x,hx,hv0,hv,hr⟩:=PA h;obtain⟨x',yJ,hrd,_⟩:=Yj hl h;rw[hx]at yJ;cases yJ;obtain⟨m1,m2,m3,m4,m5,m6,m7⟩:=Ym aa hx;refine⟨?_,hv0,?_,fM,?_,Ew x.coding x.notes,?_,?_,?_⟩
 ·rw[hv];exact Qk (by constructor<;>omega) (by constructor<;>omega) (by rw[FI];omega)
 ·cases hs:Ch v with
  | none=>unfold FG at fM;rw[hs]at fM;cases fM
  | some y=>rfl
 ·rw[hr];unfold kR;split
  ·simp
  have a1:=dq (n:=(x.coding:Int)) aa aa;have a2:=wD (f:=fg) (m:=65600) (l:=x.notes) aa λy hy=>by obtain⟨⟨q1,q2⟩,q3⟩:=m7 y hy;have h1:=dq q1 q2;have h2:=rW (b:=y.2.2) aa;simp only[fg,ak,aq];omega
  have a3:=kr 65600 (show x.notes.length<=1000 by omega);rw[ak];omega
 ·rw[Yh,hrd]
 ·unfold Ew;split<;>split<;>simp
 rw[hr,afL,akf]
theorem ama{v:ao}(h:(ct v).1=0):dP v=0/\∀p∈v.parts,dP p=0:=by
 unfold ct at h;split at h
 ·rename_i e he;exact absurd h (Pp he)
 rename_i m he;have key:∀ {d n m:Nat} {v:ao},gz d v n=.ok m->dP v=0:=by
  intro d n m v h;rw[xw]at h;split at h
  ·cases h
  rename_i h0;have h0:=pB.1 h0;unfold gy at h0;split at h0
  ·cases h0
  exact h0
 refine⟨key he,λp hp=>?_⟩;obtain⟨_,_,_,_,_,_,_,h8⟩:=KR he;obtain⟨a,b,h9⟩:=Ao h8 p hp;exact key h9
theorem al9{x:ao}(hx:dP x=0)(h1:x.kind=2):x=.mk 2 0 x.bytes [] []:=by obtain⟨_,hf,_⟩:=Bq hx;unfold jA at hf;exact ao.ext h1 (by show x.num=0;omega) rfl (dt aa) (dt aa)
theorem acC(n:Int):enc (.mk 1 n [] [] [])=az 1++az n:=by rw[Ay];simp[ao.kind,ao.num]
theorem acz(b:ab):enc (.mk 2 0 b [] [])=az 2++eh b:=by rw[Ay];simp[ao.kind,ao.bytes]
def allM{α β:Type}(g:α->Option β):List α->Option (List β)
 | []=>some []
 | x::l=>match g x,allM g l with
  | some y,some ys=>some (y::ys)
  | _,_=>none
theorem vq{α β:Type}{g:α->Option β}:∀ {l:List α} {ys:List β},allM g l=some ys->ys.length=l.length/\∀(i:Nat) (x:α) (y:β),l[i]?=some x->ys[i]?=some y->g x=some y
 | [],ys,h=>by cases h;exact⟨rfl,λi x y h=>by simp at h⟩
 | a::l,ys,h=>by
  unfold allM at h;split at h
  ·rename_i y ys' h1 h2;cases h;obtain⟨k1,k2⟩:=vq h2;refine⟨by simp[k1],λi x z hx hz=>?_⟩;cases i with
   | zero=>simp at hx hz;subst hx hz;exact h1
   | succ i=>simp at hx hz;exact k2 i x z hx hz
  cases h
theorem xj{α β:Type}{g:α->Option β}:∀ {l:List α} {ys:List β},ys.length=l.length->(∀(i:Nat) (x:α) (y:β),l[i]?=some x->ys[i]?=some y->g x=some y)->allM g l=some ys
 | [],[],_,_=>rfl
 | [],_::_,h,_=>by simp at h
 | _::_,[],h,_=>by simp at h
 | a::l,y::ys,hl,h=>by have h0:=h 0 a y rfl rfl;have hr:=xj (l:=l) (ys:=ys) (by simpa using hl) λi x z hx hz=>h (i+1) x z (by simpa using hx) (by simpa using hz);unfold allM;rw[h0,hr]
theorem Ai{α β:Type}{g:α->Option β}:∀ {l:List α} {x:α},x∈l->g x=none->allM g l=none
 | a::l,x,hx,h=>by
  unfold allM;rcases bP.1 hx with rfl|hx
  ·rw[h]
  rw[Ai hx h];cases g a<;>rfl
theorem CJ{g:α->Option β}{l:List α}{ys:List β}{x:α}{y:β}(h:allM g l=some ys)(hx:g x=some y):allM g (l++[x])=some (ys++[y]):=by
 obtain⟨h1,h2⟩:=vq h;refine xj (by simp[h1]) λi a b ha hb=>?_;rcases Nat.lt_trichotomy i l.length with hi|hi|hi
 ·rw[qx hi]at ha;rw[qx aa]at hb;exact h2 i a b ha hb
 ·subst hi;rw[BQ (aQ _)]at ha;rw[BQ aa,h1]at hb;simp at ha hb;rw[<-ha,<-hb,hx]
 rw[lO (by simp;omega)]at ha;cases ha
theorem aaD{g:α->Option β}{l:List α}{ys:List β}(h:allM g l=some ys):allM g l.reverse=some ys.reverse:=by
 obtain⟨h1,h2⟩:=vq h;refine xj (by simp[h1]) λi a b ha hb=>?_;have hi:i<l.length:=by obtain⟨q,_⟩:=dH.1 ha;simpa using q
 rw[Fa hi]at ha;rw[Fa aa,h1]at hb;exact h2 _ a b ha hb
def fi{α:Type}(s h:Nat)(l:List α):List (List α):=(bZ h).map λy=>(l.drop (y*s)).take s
theorem qE(s h:Nat)(l:List α):(fi s h l).length=h:=by simp[fi]
theorem JF{h:Nat}{l:List α}{y:Nat}(hy:y<h):(fi s h l)[y]?=some ((l.drop (y*s)).take s):=by simp[fi,ib,List.getElem?_range hy]
theorem JG{h:Nat}{l:List α}(hl:l.length=h*s){r:List α}(hr:r∈fi s h l):r.length=s:=by obtain⟨y,hy,rfl⟩:=cJ.1 hr;have hy:=oG.1 hy;have:(y+1)*s<=h*s:=kr s hy;rw[wE]at this;rw[bg,aU];omega
theorem Pg{α:Type}{s:Nat}:∀ {h:Nat} {l:List α},l.length=h*s->(fi s h l).flatten=l
 | 0,l,hl=>by rw[dt (l:=l) aa];rfl
 | h+1,l,hl=>by
  have e:fi s (h+1) l=l.take s::fi s h (l.drop s):=by
   unfold fi;rw[E8,fO,pD];congr 1
   ·simp
   refine qz λy _=>?_;simp only[Function.comp,gK];congr 2;rw[qB];omega
  rw[e,pC,Pg (by rw[aU,hl,wE];omega),eW]
theorem AK{α:Type}{s:Nat}:∀ {R:List (List α)},(∀r∈R,r.length=s)->R.flatten.length=R.length*s/\fi s R.length R.flatten=R
 | [],_=>⟨ah,rfl⟩
 | r::R,h=>by
  obtain⟨k1,k2⟩:=AK (R:=R) λx hx=>h x (by simp[hx]);have h0:=h r ah;refine⟨by rw[pC,ak,k1,h0,aq,wE];omega,?_⟩;unfold fi at k2 |-;rw[aq,E8,fO,pD];congr 1
  ·rw[Nat.zero_mul,lj,pC,<-h0,List.take_left]
  conv=>rhs;rw[<-k2]
  refine qz λy _=>?_;simp only[Function.comp];rw[qB,pC,sq,<-gK,<-h0,List.drop_left]
theorem adb{R:List (List α)}:R.reverse.flatten.length=R.flatten.length:=by simp[List.length_flatten,List.sum_reverse]
def iE(x:UInt8):Nat->ab->Nat
 | 0,_=>0
 | _+1,[]=>0
 | m+1,y::l=>if y=x then iE x m l+1 else 0
def dM(l:ab):Nat:=iE (l.headD 0) 129 l
theorem XN(x:UInt8):∀(m:Nat) (l:ab),iE x m l<=m/\iE x m l<=l.length
 | 0,_=>⟨aQ _,cE _⟩
 | _+1,[]=>⟨cE _,cE _⟩
 | m+1,y::l=>by
  have:=XN x m l;unfold iE;split
  ·simp only[aq];omega
  omega
theorem Ph(x:UInt8):∀(m:Nat) (l:ab),l.take (iE x m l)=eP (iE x m l) x
 | 0,_=>by simp[iE]
 | _+1,[]=>by simp[iE]
 | m+1,y::l=>by
  have:=Ph x m l;unfold iE;split
  ·rename_i h;rw[sy,List.replicate_succ,this,h]
  simp
theorem XM(x:UInt8)(m:Nat){l:ab}{k:Nat}(h:l.length<=k):iE x m (l.drop k)=0:=by rw[sb h];cases m<;>rfl
theorem ajv(x:UInt8)(m:Nat){l:ab}{k:Nat}(h:k<l.length):iE x (m+1) (l.drop k)=if l[k]=x then iE x m (l.drop (k+1))+1 else 0:=by rw[dk h];rfl
theorem ajw(h:l≠[]):1<=dM l:=by
 cases l with
 | nil=>exact absurd rfl h
 | cons y l =>show 1<=iE y (128+1) (y::l);unfold iE;rw[ag rfl];omega
theorem JI(l:ab):dM l<=129/\dM l<=l.length:=XN ..
def jK:Nat->ab->Nat
 | 0,_=>0
 | _+1,[]=>0
 | m+1,y::l=>if 3<=dM (y::l)then 0 else jK m l+1
theorem Vl:∀(m:Nat) (l:ab),jK m l<=m/\jK m l<=l.length
 | 0,_=>⟨aQ _,cE _⟩
 | _+1,[]=>⟨cE _,cE _⟩
 | m+1,y::l=>by
  have:=Vl m l;unfold jK;split
  ·omega
  simp only[aq];omega
theorem NO(m:Nat){l:ab}{k:Nat}(h:l.length<=k):jK m (l.drop k)=0:=by rw[sb h];cases m<;>rfl
theorem afE(m:Nat){l:ab}{k:Nat}(h:k<l.length):jK (m+1) (l.drop k)=if 3<=dM (l.drop k)then 0 else jK m (l.drop (k+1))+1:=by rw[dk h];rfl
def iQ(l:ab):Nat:=1+jK 127 (l.drop 1)
theorem Is(h:l≠[]):1<=iQ l/\iQ l<=128/\iQ l<=l.length:=by have:=Vl 127 (l.drop 1);have h1:0<l.length:=iC.2 h;rw[aU]at this;unfold iQ;omega
def gn(l:ab):ab :=
 if _h:l=[]then[]else
 if h3:3<=dM l then aD (126+dM l)::l.headD 0::gn (l.drop (dM l))
 else aD (iQ l-1)::(l.take (iQ l)++gn (l.drop (iQ l)))
termination_by l.length
decreasing_by
 ·have h1:0<l.length:=iC.2 _h
  rw[aU];omega
 have _:0<l.length:=iC.2 _h
 have:=Is _h
 rw[aU];omega
theorem EU:gn []=[]:=by rw[gn,dif_pos rfl]
theorem IQ(h:3<=dM l):gn l=aD (126+dM l)::l.headD 0::gn (l.drop (dM l)):=by
 have hl:l≠[]:=λe=>by rw[e]at h;exact absurd h ai
 conv=>lhs;rw[gn]
 rw[dif_neg hl,dif_pos h]
theorem BB(hl:l≠[])(h:dM l<3):gn l=aD (iQ l-1)::(l.take (iQ l)++gn (l.drop (iQ l))):=by
 conv=>lhs;rw[gn]
 rw[dif_neg hl,dif_neg aa]
def lY(l:ab):fV:=match l with
 | []=>some []
 | c::r =>
  if 129<=c.toNat/\0<r.length then(lY (r.drop 1)).map (eP (c.toNat-126) (r.headD 0)++·)
  else if c.toNat<128/\c.toNat<r.length then(lY (r.drop (c.toNat+1))).map (r.take (c.toNat+1)++·)else none
termination_by l.length
decreasing_by
 ·rw[aU,aq];omega
 rw[aU,aq];omega
theorem Sd:lY []=some []:=by rw[lY]
theorem Lc(c:UInt8)(r:ab):lY (c::r)=if 129<=c.toNat/\0<r.length then(lY (r.drop 1)).map (eP (c.toNat-126) (r.headD 0)++·)
  else if c.toNat<128/\c.toNat<r.length then(lY (r.drop (c.toNat+1))).map (r.take (c.toNat+1)++·)else none:=by
 conv=>lhs;rw[lY]
theorem Ld:∀(n:Nat) (l:ab),l.length<n->lY (gn l)=some l
 | 0,_,h=>absurd h (Nat.not_lt_zero _)
 | n+1,l,hn=>by
  by_cases hl:l=[]
  ·rw[hl,EU,Sd]
  have h1:0<l.length:=iC.2 hl;by_cases h3:3<=dM l
  ·have hr:=JI l;have hc:(aD (126+dM l)).toNat=126+dM l:=by rw[kt];omega
   rw[IQ h3,Lc,ag ⟨aa,ah⟩,List.drop_one,List.tail_cons,Ld n _ (by rw[aU];omega),hc];show some (eP (126+dM l-126) (l.headD 0)++l.drop (dM l))=some l;rw[show 126+dM l-126=dM l by omega];have:=Ph (l.headD 0) 129 l;rw[show iE (l.headD 0) 129 l=dM l from rfl]at this;rw[<-this,eW]
  have hk:=Is hl;have hc:(aD (iQ l-1)).toNat=iQ l-1:=by rw[kt];omega
  have htl:(l.take (iQ l)).length=iQ l:=by rw[bg];omega
  rw[BB hl aa,Lc,ae aa,hc,ag ⟨aa,by rw[ak];omega⟩,show iQ l-1+1=iQ l by omega];rw[List.drop_left' htl,E9 htl,Ld n _ (by rw[aU];omega)];show some (l.take (iQ l)++l.drop (iQ l))=some l;rw[eW]
def mo(l:ab)(size:Nat):fV:=match lY l with
 | none=>none
 | some o=>if o.length=size/\gn o=l then some o else none
theorem Kk{size:Nat}{o:ab}:mo l size=some o↔o.length=size/\gn o=l:=by
 unfold mo;constructor
 ·intro h;cases hd:lY l with
  | none=>rw[hd]at h;cases h
  | some y =>
   rw[hd]at h;dsimp only at h;split at h
   ·cases h;assumption
   cases h
 rintro⟨h1,rfl⟩;rw[Ld _ o (sj _)];dsimp only;rw[ag ⟨h1,rfl⟩]
def uU(L X:ab):ab:=if L=[]then gn X else aD (L.length+jK (128-L.length) X-1)::(L++X.take (jK (128-L.length) X)++gn (X.drop (jK (128-L.length) X)))
theorem yV(X:ab):uU [] X=gn X:=by unfold uU;rw[ag rfl]
theorem Wg(hL:L≠[])(h:L.length=128\/X=[]\/3<=dM X)(_:L.length<=128):uU L X=aD (L.length-1)::(L++gn X):=by
 have e:jK (128-L.length) X=0:=by
  rcases h with h|h|h
  ·rw[h];rfl
  ·rw[h];exact NO _ (l:=[]) (k:=0) (aQ _)
  cases X with
  | nil=>exact NO _ (l:=[]) (k:=0) (aQ _)
  | cons x X =>
   cases 128-L.length with
   | zero=>rfl
   | succ m=>unfold jK;rw[ag h]
 unfold uU;rw[ae hL,e];simp
theorem ahc{x:UInt8}(h8:L.length<128)(h3:dM (x::X)<3):uU L (x::X)=uU (L++[x]) X:=by
 conv=>rhs;unfold uU
 rw[ae ah];by_cases hL:L=[]
 ·subst hL;rw[yV,BB ah h3,show iQ (x::X)=jK 127 X+1 from sq ..];have e:jK (128-([]++[x]).length) X=jK 127 X:=rfl;rw[e,sy,wG];simp[sq]
 unfold uU;obtain⟨m,hm⟩:∃m,128-L.length=m+1:=⟨127-L.length,aa⟩
 have e:jK (128-L.length) (x::X)=jK m X+1:=by rw[hm];show(if 3<=dM (x::X)then 0 else jK m X+1)=_;rw[ae aa]
 have e2:128-(L++[x]).length=m:=by rw[ak,aq,aK];omega
 rw[ae hL,e,e2,sy,wG];rw[show L.length+(jK m X+1)-1=(L++[x]).length+jK m X-1 by rw[ak,aq,aK];omega];simp
end Go.Proofs.YtmoiobegbpkkbaaGreatDoor
