import Derived.Test.YtmoiobegbpkkbaaGreatDoorRAD
open Decidable renaming byContradiction->qU
open Int renaming toNat_natCast->e8
open List renaming getElem?_map->eu,all_eq_true->bj,getElem?_eq_none->jk,mem_cons->bB,append_nil->cm,length_nil->aI,length_cons->av,foldl_cons->A4,take_of_length_le->bR,append_assoc->bJ,cons_append->aL,nil_append->aA,length_append->aq,length_take->bb,length_drop->bd,flatMap_cons->bz,mem_append->cq,mem_filter->vS,eq_nil_of_length_eq_zero->bL,getElem_mem->cj,not_mem_nil->pQ,take_succ_eq_append_getElem->bZ,mem_singleton->cv,map_cons->fq,getElem?_eq_getElem->a8,filter_cons_of_pos->Dz,filter_cons_of_neg->Gj,flatten_cons->ji,flatten_nil->ui,length_map->bu,map_append->eZ,map_nil->kx,getElem_of_mem->Lv,getElem_map->Lw,getElem_take->vQ
open Nat renaming le_refl->aK,mul_comm->mM,zero_le->cu
open UInt8 renaming toNat_inj->eF,toNat_lt->dY
namespace Go.Proofs.YtmoiobegbpkkbaaGreatDoor
open Go Go.RowKit
set_option maxRecDepth 100000
set_option maxHeartbeats 8000000
variable{α:Type}{k B:Nat}{V w w0 V0:ae}{s:Sl}{l b:ad}{cs:List bO}{C:Cx}{own:bU}{rate ch:Int}{v:ar}
theorem NF{x:Int}{j:Nat}(hj:j<=32){m:Nat}(hm:m=2^j-1):bN .and .i64 x (m:Int)=x%(2^j:Nat):=by
 have h1:(2:Nat)^j<=2^32:=Nat.pow_le_pow_right ag hj;have h0:0<(2:Nat)^j:=Nat.two_pow_pos j;have h32:(2:Nat)^32=4294967296:=ag;show IntKind.i64.wrap ((BitVec.ofInt 64 x&&&BitVec.ofInt 64 (m:Int)).toNat:Int)=_;rw[BitVec.toNat_and,oz (x:=m) (by simp only[Nat.reducePow];omega),hm,Nat.and_two_pow_sub_one_eq_mod,BitVec.toNat_ofInt];have hd:((2^j:Nat):Int)∣((2^64:Nat):Int):=by
  rw[show(2:Nat)^64=2^j*2^(64-j)by rw[<-Nat.pow_add];congr 1;omega];exact⟨((2^(64-j):Nat):Int),by push_cast;rfl⟩
 have hlt:=Nat.mod_lt (x%((2^64:Nat):Int)).toNat h0;rw[Nl aa];have hnn:0<=x%((2^64:Nat):Int):=Int.emod_nonneg _ ag;rw[Int.natCast_emod,Int.toNat_of_nonneg hnn,Int.emod_emod_of_dvd _ hd]
theorem Ej(x:Int):bN .and .i64 x 65535=x%65536:=NF (j:=16) ag rfl
theorem Ek(x:Int):bN .and .i64 x 255=x%256:=NF (j:=8) ag rfl
section
variable{V W:ae}
theorem Zw(hV:Sub V W){rate ch coding:Nat}(hc:coding<4)(hch:1<=ch/\ch<=2){s:Sl}{l:List Int}(hs:aB cK V s l)(hl:l.length<=1000000)(hb:∀x∈l, -32768<=x/\x<=32767) :
  aC 231 [.agg (fmtC rate ch coding).toArray,s.v] W λv w'=>∃r:Sl,v=r.v/\Rel W V [.row r 5 1 ((lj l coding ch).flatMap aE)] V w':=by
 have H:=Rel.start hV;have hlen:=hs.len;have f256:dw false=256:=rfl;have f65:dw true=65536:=rfl;refine eV Tryz.func231 66 [0,1,2,4,5,6,8,9,10,11,12,13,14,21,43,57] ?_;refine wk ?_;refine H.nA ?_;clear H;intro w b2 H;replace H:=H.cb 3 1;replace H:=H.cb 5 1;refine wk ?_;refine aY (S:=Nat×Sl×Sl) ah [0,1,2,4,11,12] (λk=>[(5,k.2.1.v),(6,k.2.2.v),(13,iv k.1)]) (λk w'=>k.1<=l.length/\Rel W V [.row k.2.2 5 1 ((qQ (aV coding) (dT coding) ch (l.map (dz (aV coding))) k.1).flatMap aE),.row k.2.1 3 1 (((l.take k.1).map (dz (aV coding))).flatMap lK),.ax b2 (fmtC rate ch coding) 171] V w') (λk _=>l.length-k.1) (0,⟨none,0,0⟩,⟨none,0,0⟩) ?_;conv=>whnf
 refine⟨sB,⟨aa,H⟩,?_⟩;clear H;rintro⟨k,r5,r6⟩w⟨hk,H⟩;dsimp only at hk H |-;by_cases hlt:k<l.length;rotate_left
 ·have ek:k=l.length:=aa;rw[agE];rw[ek]at H;refine wk ?_;exact⟨r6,rfl,H.sx⟩
 obtain rfl|rfl|rfl|rfl:coding=0\/coding=1\/coding=2\/coding=3:=aa
 ·have hand:bN .and .i64 0 2=0:=by decide +kernel
  have lJ:=hb _ (cj hlt);obtain⟨p0,d0⟩:=hs.aX (g:=iv) (λ_=>rfl) hlt;obtain⟨x,hx⟩:∃x,x=l[k]:=⟨_,rfl⟩
  rw[<-hx]at d0 lJ;obtain⟨U,hU⟩:∃U,U=l.map (dz (aV 0)):=⟨_,rfl⟩
  have kL:∀i:Nat,U[i]?.getD 0<dw (aV 0):=by rw[hU];exact D4 _ _
  obtain⟨u,hu⟩:∃u,u=dz (aV 0) x:=⟨_,rfl⟩
  have oq:U[k]?.getD 0=u:=by rw[hU,eu,a8 hlt,hu,hx];rfl
  have Kj:u<256:=by have:=kL k;rw[oq]at this;exact this
  have gV:=F6 (aV 0) (dT 0) ch U k;have oh:=(H.eG (i:=0) rfl (λ_=>rfl) ag).len;have gh:=Dt (aV 0) (dT 0) ch U k;rw[<-hU]at H oh |-;obtain⟨O,hO⟩:∃O,O=qQ (aV 0) (dT 0) ch U k:=⟨_,rfl⟩
  rw[<-hO]at gV oh gh H;have hz:(x/256+128)%256=(u:Int):=by rw[hu];show _=((((x/256+128)%256).toNat:Nat):Int);omega
  refine wk ?_;rw[Ej];refine wk ?_;refine(iw H.data rate ch 0).use ?_;rintro q w⟨rfl,K⟩;(replace H:=H.az K);refine wk ?_;rw[iF];refine H.wg ?_;clear H;intro _ w H;try rw[Ek]at H
  rw[Ek];refine wk ?_;refine Rel.dI (f:=lK) (l:=(l.take k).map (dz (aV 0))) (x:=u) ah rfl rfl rfl rfl rfl ag (λ_=>rfl) (bj.1 rfl) (H.bA (c':=lK u) (congrArg (λz=>[Value.int .i64 z]) hz)) (by simp;omega) (by simp;omega) ?_;clear H;intro gM w H;rw[show(l.take k).map (dz (aV 0))++[u]=(l.take (k+1)).map (dz (aV 0))by rw[bZ hlt,eZ,hu,hx];rfl]at H;have S5:=H.eG (i:=1) rfl (λ_=>rfl) ag;have vm:=S5.len;rw[bu,bb]at vm;refine H.wg ?_;clear H;intro _ w H;obtain⟨d,hd⟩:∃d,d=u:=⟨_,rfl⟩
  rw[show hY (dT 0) ch (dw (aV 0)) U k=d by unfold hY;rw[if_neg (by simp[dT]),oq,hd]]at gh;refine wk ?_;refine Rel.dC (f:=aE) (l:=O) (x:=UInt8.ofNat (d)) ah rfl rfl rfl rfl rfl ag (λ_=>rfl) (by simp[Value.oneCell']) (H.bA (qm (n:=d) aa (by first|omega|(show(_:Int)%256=_;omega)))) (by simp;omega) (by simp;omega) ?_;clear H;intro rn w H;refine wk ?_;refine(iw H.data rate ch 0).use ?_;rintro q w⟨rfl,K⟩;(replace H:=H.az K);refine wk ?_;refine⟨sB,(k+1,gM,rn),sB,⟨by dsimp only;omega,?_⟩,by dsimp only;omega⟩;dsimp only;rw[gh];try rw[bJ]at H
  exact H.sx
 ·have hand:bN .and .i64 1 2=0:=by decide +kernel
  have lJ:=hb _ (cj hlt);obtain⟨p0,d0⟩:=hs.aX (g:=iv) (λ_=>rfl) hlt;obtain⟨x,hx⟩:∃x,x=l[k]:=⟨_,rfl⟩
  rw[<-hx]at d0 lJ;obtain⟨U,hU⟩:∃U,U=l.map (dz (aV 1)):=⟨_,rfl⟩
  have kL:∀i:Nat,U[i]?.getD 0<dw (aV 1):=by rw[hU];exact D4 _ _
  obtain⟨u,hu⟩:∃u,u=dz (aV 1) x:=⟨_,rfl⟩
  have oq:U[k]?.getD 0=u:=by rw[hU,eu,a8 hlt,hu,hx];rfl
  have Kj:u<65536:=by have:=kL k;rw[oq]at this;exact this
  have gV:=F6 (aV 1) (dT 1) ch U k;have oh:=(H.eG (i:=0) rfl (λ_=>rfl) ag).len;have gh:=Dt (aV 1) (dT 1) ch U k;rw[<-hU]at H oh |-;obtain⟨O,hO⟩:∃O,O=qQ (aV 1) (dT 1) ch U k:=⟨_,rfl⟩
  rw[<-hO]at gV oh gh H;have hz:x%65536=(u:Int):=by rw[hu];show _=(((x%65536).toNat:Nat):Int);omega
  refine wk ?_;rw[Ej];refine wk ?_;refine(iw H.data rate ch 1).use ?_;rintro q w⟨rfl,K⟩;(replace H:=H.az K);refine H.wg ?_;clear H;intro _ w H;refine Rel.dI (f:=lK) (l:=(l.take k).map (dz (aV 1))) (x:=u) ah rfl rfl rfl rfl rfl ag (λ_=>rfl) (bj.1 rfl) (H.bA (c':=lK u) (congrArg (λz=>[Value.int .i64 z]) hz)) (by simp;omega) (by simp;omega) ?_;clear H;intro gM w H;rw[show(l.take k).map (dz (aV 1))++[u]=(l.take (k+1)).map (dz (aV 1))by rw[bZ hlt,eZ,hu,hx];rfl]at H;have S5:=H.eG (i:=1) rfl (λ_=>rfl) ag;have vm:=S5.len;rw[bu,bb]at vm;refine H.wg ?_;clear H;intro _ w H;obtain⟨d,hd⟩:∃d,d=u:=⟨_,rfl⟩
  rw[show hY (dT 1) ch (dw (aV 1)) U k=d by unfold hY;rw[if_neg (by simp[dT]),oq,hd]]at gh;refine wk ?_;refine Rel.dC (f:=aE) (l:=O) (x:=UInt8.ofNat (d%256)) ah rfl rfl rfl rfl rfl ag (λ_=>rfl) (by simp[Value.oneCell']) (H.bA (qm (n:=d%256) aa (by first|omega|(show(_:Int)%256=_;omega)))) (by simp;omega) (by simp;omega) ?_;clear H;intro rn w H;refine wk ?_;refine(iw H.data rate ch 1).use ?_;rintro q w⟨rfl,K⟩;(replace H:=H.az K);refine H.wg ?_;clear H;intro _ w H;try rw[iF]
  try rw[iF]at H
  refine wk ?_;refine Rel.dC (f:=aE) (l:=O++[UInt8.ofNat (d%256)]) (x:=UInt8.ofNat (d/256)) ah rfl rfl rfl rfl rfl ag (λ_=>rfl) (by simp[Value.oneCell']) (H.bA (qm (n:=d/256) aa (by first|omega|(show(_:Int)%256=_;omega)))) (by simp;omega) (by simp;omega) ?_;clear H;intro rn w H;refine wk ?_;refine⟨sB,(k+1,gM,rn),sB,⟨by dsimp only;omega,?_⟩,by dsimp only;omega⟩;dsimp only;rw[gh];try rw[bJ]at H
  exact H.sx
 ·have hand:bN .and .i64 2 2=2:=by decide +kernel
  have lJ:=hb _ (cj hlt);obtain⟨p0,d0⟩:=hs.aX (g:=iv) (λ_=>rfl) hlt;obtain⟨x,hx⟩:∃x,x=l[k]:=⟨_,rfl⟩
  rw[<-hx]at d0 lJ;obtain⟨U,hU⟩:∃U,U=l.map (dz (aV 2)):=⟨_,rfl⟩
  have kL:∀i:Nat,U[i]?.getD 0<dw (aV 2):=by rw[hU];exact D4 _ _
  obtain⟨u,hu⟩:∃u,u=dz (aV 2) x:=⟨_,rfl⟩
  have oq:U[k]?.getD 0=u:=by rw[hU,eu,a8 hlt,hu,hx];rfl
  have Kj:u<256:=by have:=kL k;rw[oq]at this;exact this
  have gV:=F6 (aV 2) (dT 2) ch U k;have oh:=(H.eG (i:=0) rfl (λ_=>rfl) ag).len;have gh:=Dt (aV 2) (dT 2) ch U k;rw[<-hU]at H oh |-;obtain⟨O,hO⟩:∃O,O=qQ (aV 2) (dT 2) ch U k:=⟨_,rfl⟩
  rw[<-hO]at gV oh gh H;have hz:(x/256+128)%256=(u:Int):=by rw[hu];show _=((((x/256+128)%256).toNat:Nat):Int);omega
  refine wk ?_;rw[Ej];refine wk ?_;refine(iw H.data rate ch 2).use ?_;rintro q w⟨rfl,K⟩;(replace H:=H.az K);refine wk ?_;rw[iF];refine H.wg ?_;clear H;intro _ w H;try rw[Ek]at H
  rw[Ek];refine wk ?_;refine Rel.dI (f:=lK) (l:=(l.take k).map (dz (aV 2))) (x:=u) ah rfl rfl rfl rfl rfl ag (λ_=>rfl) (bj.1 rfl) (H.bA (c':=lK u) (congrArg (λz=>[Value.int .i64 z]) hz)) (by simp;omega) (by simp;omega) ?_;clear H;intro gM w H;rw[show(l.take k).map (dz (aV 2))++[u]=(l.take (k+1)).map (dz (aV 2))by rw[bZ hlt,eZ,hu,hx];rfl]at H;have S5:=H.eG (i:=1) rfl (λ_=>rfl) ag;have vm:=S5.len;rw[bu,bb]at vm;refine wk ?_;by_cases hdf:ch<=k
  ·have CJ:k-ch<((l.take (k+1)).map (dz (aV 2))).length:=by rw[bu,bb];omega
   obtain⟨q1,e1⟩:=S5.aX (g:=λn:Nat=>iv (n:Int)) (λ_=>rfl) (i:=k-ch) CJ;obtain⟨b,gK⟩:∃b,b=((l.take (k+1)).map (dz (aV 2)))[k-ch]:=⟨_,rfl⟩
   rw[<-gK]at e1;have cY:U[k-ch]?.getD 0=b:=by
    rw[gK,hU,Lw,vQ,eu,a8 aa];rfl
   have CW:=kL (k-ch);rw[cY]at CW;have ej:((gM.len:Int)-1-(ch:Int))=((k-ch:Nat):Int):=aa;obtain⟨d,hd⟩:∃d,d=(u+256-b)%256:=⟨_,rfl⟩
   rw[show hY (dT 2) ch (dw (aV 2)) U k=d by unfold hY;rw[if_pos (by exact⟨ag,hdf⟩),oq,cY,hd];rfl]at gh;have aby:b<256:=CW;have aaK:d<256:=aa;refine wk ?_;rw[ej];refine H.wg ?_;clear H;intro _ w H;refine Rel.dC (f:=aE) (l:=O) (x:=UInt8.ofNat (d)) ah rfl rfl rfl rfl rfl ag (λ_=>rfl) (by simp[Value.oneCell']) (H.bA (qm (n:=d) aa (by first|omega|(show(_:Int)%256=_;omega)))) (by simp;omega) (by simp;omega) ?_;clear H;intro rn w H;refine wk ?_;refine(iw H.data rate ch 2).use ?_;rintro q w⟨rfl,K⟩;(replace H:=H.az K);refine wk ?_;refine⟨sB,(k+1,gM,rn),sB,⟨by dsimp only;omega,?_⟩,by dsimp only;omega⟩;dsimp only;rw[gh];try rw[bJ]at H
   exact H.sx
  ·obtain⟨d,hd⟩:∃d,d=u:=⟨_,rfl⟩
   rw[show hY (dT 2) ch (dw (aV 2)) U k=d by unfold hY;rw[if_neg (λh=>hdf h.2),oq,hd]]at gh;refine H.wg ?_;clear H;intro _ w H;refine Rel.dC (f:=aE) (l:=O) (x:=UInt8.ofNat (d)) ah rfl rfl rfl rfl rfl ag (λ_=>rfl) (by simp[Value.oneCell']) (H.bA (qm (n:=d) aa (by first|omega|(show(_:Int)%256=_;omega)))) (by simp;omega) (by simp;omega) ?_;clear H;intro rn w H;refine wk ?_;refine(iw H.data rate ch 2).use ?_;rintro q w⟨rfl,K⟩;(replace H:=H.az K);refine wk ?_;refine⟨sB,(k+1,gM,rn),sB,⟨by dsimp only;omega,?_⟩,by dsimp only;omega⟩;dsimp only;rw[gh];try rw[bJ]at H
   exact H.sx
 ·have hand:bN .and .i64 3 2=2:=by decide +kernel
  have lJ:=hb _ (cj hlt);obtain⟨p0,d0⟩:=hs.aX (g:=iv) (λ_=>rfl) hlt;obtain⟨x,hx⟩:∃x,x=l[k]:=⟨_,rfl⟩
  rw[<-hx]at d0 lJ;obtain⟨U,hU⟩:∃U,U=l.map (dz (aV 3)):=⟨_,rfl⟩
  have kL:∀i:Nat,U[i]?.getD 0<dw (aV 3):=by rw[hU];exact D4 _ _
  obtain⟨u,hu⟩:∃u,u=dz (aV 3) x:=⟨_,rfl⟩
  have oq:U[k]?.getD 0=u:=by rw[hU,eu,a8 hlt,hu,hx];rfl
  have Kj:u<65536:=by have:=kL k;rw[oq]at this;exact this
  have gV:=F6 (aV 3) (dT 3) ch U k;have oh:=(H.eG (i:=0) rfl (λ_=>rfl) ag).len;have gh:=Dt (aV 3) (dT 3) ch U k;rw[<-hU]at H oh |-;obtain⟨O,hO⟩:∃O,O=qQ (aV 3) (dT 3) ch U k:=⟨_,rfl⟩
  rw[<-hO]at gV oh gh H;have hz:x%65536=(u:Int):=by rw[hu];show _=(((x%65536).toNat:Nat):Int);omega
  refine wk ?_;rw[Ej];refine wk ?_;refine(iw H.data rate ch 3).use ?_;rintro q w⟨rfl,K⟩;(replace H:=H.az K);refine H.wg ?_;clear H;intro _ w H;refine Rel.dI (f:=lK) (l:=(l.take k).map (dz (aV 3))) (x:=u) ah rfl rfl rfl rfl rfl ag (λ_=>rfl) (bj.1 rfl) (H.bA (c':=lK u) (congrArg (λz=>[Value.int .i64 z]) hz)) (by simp;omega) (by simp;omega) ?_;clear H;intro gM w H;rw[show(l.take k).map (dz (aV 3))++[u]=(l.take (k+1)).map (dz (aV 3))by rw[bZ hlt,eZ,hu,hx];rfl]at H;have S5:=H.eG (i:=1) rfl (λ_=>rfl) ag;have vm:=S5.len;rw[bu,bb]at vm;refine wk ?_;by_cases hdf:ch<=k
  ·have CJ:k-ch<((l.take (k+1)).map (dz (aV 3))).length:=by rw[bu,bb];omega
   obtain⟨q1,e1⟩:=S5.aX (g:=λn:Nat=>iv (n:Int)) (λ_=>rfl) (i:=k-ch) CJ;obtain⟨b,gK⟩:∃b,b=((l.take (k+1)).map (dz (aV 3)))[k-ch]:=⟨_,rfl⟩
   rw[<-gK]at e1;have cY:U[k-ch]?.getD 0=b:=by
    rw[gK,hU,Lw,vQ,eu,a8 aa];rfl
   have CW:=kL (k-ch);rw[cY]at CW;have ej:((gM.len:Int)-1-(ch:Int))=((k-ch:Nat):Int):=aa;obtain⟨d,hd⟩:∃d,d=(u+65536-b)%65536:=⟨_,rfl⟩
   rw[show hY (dT 3) ch (dw (aV 3)) U k=d by unfold hY;rw[if_pos (by exact⟨ag,hdf⟩),oq,cY,hd];rfl]at gh;have aby:b<65536:=CW;have aaK:d<65536:=aa;refine wk ?_;rw[ej];refine H.wg ?_;clear H;intro _ w H;refine Rel.dC (f:=aE) (l:=O) (x:=UInt8.ofNat (d%256)) ah rfl rfl rfl rfl rfl ag (λ_=>rfl) (by simp[Value.oneCell']) (H.bA (qm (n:=d%256) aa (by first|omega|(show(_:Int)%256=_;omega)))) (by simp;omega) (by simp;omega) ?_;clear H;intro rn w H;refine wk ?_;refine(iw H.data rate ch 3).use ?_;rintro q w⟨rfl,K⟩;(replace H:=H.az K);refine H.wg ?_;clear H;intro _ w H;try rw[iF]
   try rw[iF]at H
   refine wk ?_;refine Rel.dC (f:=aE) (l:=O++[UInt8.ofNat (d%256)]) (x:=UInt8.ofNat (d/256)) ah rfl rfl rfl rfl rfl ag (λ_=>rfl) (by simp[Value.oneCell']) (H.bA (qm (n:=d/256) aa (by first|omega|(show(_:Int)%256=_;omega)))) (by simp;omega) (by simp;omega) ?_;clear H;intro rn w H;refine wk ?_;refine⟨sB,(k+1,gM,rn),sB,⟨by dsimp only;omega,?_⟩,by dsimp only;omega⟩;dsimp only;rw[gh];try rw[bJ]at H
   exact H.sx
  ·obtain⟨d,hd⟩:∃d,d=u:=⟨_,rfl⟩
   rw[show hY (dT 3) ch (dw (aV 3)) U k=d by unfold hY;rw[if_neg (λh=>hdf h.2),oq,hd]]at gh;refine H.wg ?_;clear H;intro _ w H;refine Rel.dC (f:=aE) (l:=O) (x:=UInt8.ofNat (d%256)) ah rfl rfl rfl rfl rfl ag (λ_=>rfl) (by simp[Value.oneCell']) (H.bA (qm (n:=d%256) aa (by first|omega|(show(_:Int)%256=_;omega)))) (by simp;omega) (by simp;omega) ?_;clear H;intro rn w H;refine wk ?_;refine(iw H.data rate ch 3).use ?_;rintro q w⟨rfl,K⟩;(replace H:=H.az K);refine H.wg ?_;clear H;intro _ w H;try rw[iF]
   try rw[iF]at H
   refine wk ?_;refine Rel.dC (f:=aE) (l:=O++[UInt8.ofNat (d%256)]) (x:=UInt8.ofNat (d/256)) ah rfl rfl rfl rfl rfl ag (λ_=>rfl) (by simp[Value.oneCell']) (H.bA (qm (n:=d/256) aa (by first|omega|(show(_:Int)%256=_;omega)))) (by simp;omega) (by simp;omega) ?_;clear H;intro rn w H;refine wk ?_;refine⟨sB,(k+1,gM,rn),sB,⟨by dsimp only;omega,?_⟩,by dsimp only;omega⟩;dsimp only;rw[gh];try rw[bJ]at H
   exact H.sx
end
section
variable{V W:ae}
theorem abR(hV:Sub V W)(c:nS):aC 222 [.agg (wW c).toArray] W λv w'=>v=.bool (decide (c.1=68))/\Rel W V [] V w':=by
 have H:=Rel.start hV;refine eV Tryz.func222 6 [0,1,2] ?_;refine wk ?_;refine H.nA ?_;clear H;intro w b1 H;refine wk ?_;refine⟨congrArg Value.bool (decide_eq_decide.2 ⟨λh=>?_,λh=>?_⟩),H.sx⟩
 ·apply eF.1;show c.1.toNat=68;omega
 ·rw[h];rfl
theorem YX(hV:Sub V W){s:Sl}{l:List nS}(hs:aB wW V s l)(hl:l.length<=1000000){i:Nat}(hi:i<l.length)(h1:l[i].1=68)(h2:∀k,k<i->(h:k<l.length)->l[k].1≠68) :
  aC 221 [s.v,.func (.func 222) #[] #[]] W λv w'=>v=iv i/\Rel W V [] V w':=by
 have H:=Rel.start hV;have hlen:=hs.len;refine eV Tryz.func221 19 [0,1,4,5,7,8,9,16] ?_;refine wk ?_;refine aY (S:=Nat) ah [0,1,7] (λk=>[(8,iv k)]) (λk w'=>k<=i/\Rel W V [] V w') (λk _=>l.length-k) 0 ?_;conv=>whnf
 refine⟨sB,⟨aa,H⟩,?_⟩;clear H;rintro k w⟨hk,H⟩;have hlt:k<l.length:=aa;obtain⟨hp,hg⟩:=hs.get (n:=2) (λ_=>rfl) ag hlt;have dR:=hg 0 _ rfl;have hc1:=hg 1 _ rfl;refine wk ?_;refine(abR H.data l[k]).use ?_;rintro q w⟨rfl,K⟩;(replace H:=H.az K);by_cases he:k=i
 ·subst he;rw[h1,decide_eq_true rfl];refine wk ?_;exact H.sx
 ·rw[decide_eq_false (h2 k aa hlt)];refine wk ?_;exact⟨sB,k+1,sB,⟨aa,H.sx⟩,aa⟩
end
section
variable{V W:ae}
theorem F0{g:FuncId}{cap:aD}{a:ao}{bs:ad}(h:∀V1 W1,Sub V1 W1->Sub V V1->oD g (a::cap).toArray W1 λv w'=>∃r:Sl,v=r.v/\Rel W1 V1 [.row r 5 1 (bs.flatMap aE)] V1 w'):uK V g cap a bs:=by
 intro V1 W1 h1 h2;refine(h V1 W1 h2 h1).mono ?_;rintro v w⟨r,rfl,K⟩;obtain⟨V2,hV2,K,hr⟩:=Rel.aT K (λ_=>rfl) ag;exact⟨V2,r,hV2,rfl,hr,K⟩
end
theorem PI{α:Type}{f:α->ad}{m:Nat}:∀ {l:List α},(∀x∈l,(f x).length<=m)->(l.flatMap f).length<=l.length*m
 | [],_=>by simp
 | x::l,h=>by
  have h1:=h x ai;have h2:=PI (l:=l) λy hy=>h y (by simp[hy]);simp only[bz,aq,av,Nat.succ_mul];omega
theorem vI{f:α->ad}{m:Nat}{l:List α}(hl:l.length<=1099511627776)(h:∀x∈l,(f x).length<=m):(bY f l).length<=10+l.length*m:=by
 have:=fj (n:=l.length) aa aa;have:=PI h;rw[bY,aq];omega
def Reads{α β:Type}(V:ae)(g:FuncId)(cap:aD)(s:Sl)(A:β->ao)(R:ae->β->α->Prop)(p:Nat)(res:gH α):Prop :=
 ∀V1 W1,Sub V V1->Sub V1 W1->oD g (s.v::iv p::cap).toArray W1 (Bz A R W1 V1 res)
theorem Dg{α:Type}{one:Nat->gH α}{k p q:Nat}{ys:List α}{c i:Int}(h:dK one k p=.ok ys q)(hb:one q=.bad c i):∀n,dK one (k+1+n) p=.bad c i
 | 0=>by rw[Nat.add_zero,FP,h];simp only[hb]
 | n+1=>by
  rw[show k+1+(n+1)=(k+1+n)+1 by omega,FP,Dg h hb n]
theorem FQ{one:Nat->gH α}{p q r:Nat}{ys:List α}{y:α}(h:dK one k p=.ok ys q)(hb:one q=.ok y r):dK one (k+1) p=.ok (ys++[y]) r:=by
 rw[FP,h];simp only[hb]
abbrev fC:=cB×Sl
abbrev pG(p:fC):aD:=[bv p.1.2.1,p.2.v,iv p.1.1]
abbrev Bw(V:ae)(p:fC)(e:cB):Prop:=p.1=e/\ay V p.2 p.1.2.2
abbrev rK(V:ae)(s:Sl)(ns:List cB):Prop:=RL pG Bw V s ns
theorem rK.up{V V':ae}{s:Sl}{ns:List cB}(h:rK V s ns)(k:Sub V V'):rK V' s ns:=by
 obtain⟨ps,h1,h2⟩:=h;exact⟨ps,h1.up k,h2.up (λ_ _ _ _ hs h=>⟨h.1,h.2.up hs⟩) k⟩
theorem rK.nil(V:ae):rK V ⟨none,0,0⟩ []:=⟨[],aB.nil _ _,Pw.nil⟩
theorem Pw.adk{ps:List fC}{ns:List cB}(h:Pw Bw V ps ns):ps.map (·.1)=ns:=by
 refine List.ext_getElem (by simp[h.len]) λi h1 h2=>?_;have h3:i<ps.length:=by simpa using h1
 rw[Lw];exact(h.all i _ _ (a8 h3) (a8 h2)).1
theorem aB.mZ{f:α->aD}{l:List α}(h:aB f V s l){g g' g'':α->ao}(hf:∀x,f x=[g x,g' x,g'' x]){i:Nat}(hi:i<l.length):Plain s.a/\V.cell? ⟨bD s.a,bw s.a+i*3,none⟩=some (g l[i])/\V.cell? ⟨bD s.a,bw s.a+i*3+1,none⟩=some (g' l[i])/\V.cell? ⟨bD s.a,bw s.a+i*3+2,none⟩=some (g'' l[i]):=by
 obtain⟨h1,h2⟩:=h.get (n:=3) (λx=>by rw[hf];rfl) aa hi;exact⟨h1,h2 0 _ (by rw[hf];rfl),h2 1 _ (by rw[hf];rfl),h2 2 _ (by rw[hf];rfl)⟩
section
variable{V W:ae}
theorem zR(hV:Sub V W)(c i:Int):aC 143 [iv c,iv i] W λv w'=>v=kg c i/\Rel W V [] V w':=by
 have H:=Rel.start hV;refine eV Tryz.func143 8 [0,1,4] ?_;refine H.wg ?_;clear H;intro _ _ w H;exact H.sx
theorem Sq(p:fC)(h1:dx p.1.1)(h2:p.1.2.2.length<=1099511620000)(hx:ay V p.2 p.1.2.2):uK V 226 [] (.agg (pG p).toArray) (ep p.1):=F0 λV1 W1 hV fg=>by
 have H:=Rel.start hV;have cY:=hx.up fg;have hn:=fj h1.1 h1.2;have hc:=yz (b:=p.1.2.2) aa;refine eV Tryz.func226 16 [0,1,2] ?_;refine wk ?_;refine H.nA ?_;clear H;intro w b1 H;refine wk ?_;(first|refine O7 (id:=1) ah mixed [2,6,10] [0,1,3,4,5,7,8,9,2,6,10,11,12,13] [(2,[]),(6,[]),(10,[2]),(11,[2,6,10]),(12,[2,6,10,11])] aj ?_);intro w aR;replace H:=Rel.ext H aR.ext;refine wk ?_;refine⟨?_,?_⟩
 ·refine wk ?_;refine(iQ H.data h1).use ?_;rintro v w⟨r1,rfl,K⟩;(replace H:=Rel.call H K);simp only[aL,aA]at H;obtain⟨V2,hV2,H,hr1⟩:=Rel.aT H (λ_=>rfl) ag;replace cY:=cY.up hV2;try replace hr1:=hr1.up hV2
  try replace gr:=gr.up hV2
  try replace cL:=cL.up hV2
  refine wk ?_;refine⟨?_,?_⟩
  ·refine wk ?_;refine H.nA ?_;clear H;intro w b9 H;obtain⟨V3,aw,H,Cy⟩:=H.bt;have gr:ay V3 ⟨some ⟨b9,0,none⟩,1,1⟩ [p.1.2.1]:=di.iY (l:=[p.1.2.1]) Cy rfl;replace cY:=cY.up aw;try replace hr1:=hr1.up aw
   try replace gr:=gr.up aw
   try replace cL:=cL.up aw
   refine wk ?_;refine wk ?_;refine(zF H.data cY aa).use ?_;rintro v w⟨r3,rfl,K⟩;(replace H:=Rel.call H K);simp only[aL,aA]at H;obtain⟨V4,aG,H,cL⟩:=Rel.aT H (λ_=>rfl) ag;replace cY:=cY.up aG;try replace hr1:=hr1.up aG
   try replace gr:=gr.up aG
   try replace cL:=cL.up aG
   refine wk ?_;refine H.nA ?_;clear H;intro w mf H;obtain⟨V5,aQ,H,tE⟩:=H.bt;replace cY:=cY.up aQ;try replace hr1:=hr1.up aQ
   try replace gr:=gr.up aQ
   try replace cL:=cL.up aQ
   refine wk ?_;refine(nf (s:=⟨some ⟨mf,0,none⟩,3,3⟩) (hl:=[r1,⟨some ⟨b9,0,none⟩,1,1⟩,r3]) (ll:=[aM p.1.1,[p.1.2.1],cP p.1.2.2]) H.data ⟨rfl,aK _,tE.cells⟩ ⟨rfl,λk x y hx hy=>?_⟩ ai ?_).use ?_
   ·match k,hx,hy with
    | 0,hx,hy=>cases hx;cases hy;exact hr1
    | 1,hx,hy=>cases hx;cases hy;exact gr
    | 2,hx,hy=>cases hx;cases hy;exact cL
    | k+3,hx,hy=>simp at hx
   ·simp only[ji,ui,aq,av,aI];omega
   rintro v w⟨r,rfl,K⟩;(replace H:=Rel.call H K);simp only[aL,aA]at H;refine wk ?_;refine⟨r,rfl,?_⟩;have e:ep p.1=[aM p.1.1,[p.1.2.1],cP p.1.2.2].flatten:=by simp[ep]
   rw[e];exact Rel.back H.sx
  ·refine wk ?_;refine(zF H.data cY aa).use ?_;rintro v w⟨r3,rfl,K⟩;(replace H:=Rel.call H K);simp only[aL,aA]at H;obtain⟨V4,aG,H,cL⟩:=Rel.aT H (λ_=>rfl) ag;replace cY:=cY.up aG;try replace hr1:=hr1.up aG
   try replace gr:=gr.up aG
   try replace cL:=cL.up aG
   refine wk ?_;refine wk ?_;refine H.nA ?_;clear H;intro w b9 H;obtain⟨V3,aw,H,Cy⟩:=H.bt;have gr:ay V3 ⟨some ⟨b9,0,none⟩,1,1⟩ [p.1.2.1]:=di.iY (l:=[p.1.2.1]) Cy rfl;replace cY:=cY.up aw;try replace hr1:=hr1.up aw
   try replace gr:=gr.up aw
   try replace cL:=cL.up aw
   refine wk ?_;refine H.nA ?_;clear H;intro w mf H;obtain⟨V5,aQ,H,tE⟩:=H.bt;replace cY:=cY.up aQ;try replace hr1:=hr1.up aQ
   try replace gr:=gr.up aQ
   try replace cL:=cL.up aQ
   refine wk ?_;refine(nf (s:=⟨some ⟨mf,0,none⟩,3,3⟩) (hl:=[r1,⟨some ⟨b9,0,none⟩,1,1⟩,r3]) (ll:=[aM p.1.1,[p.1.2.1],cP p.1.2.2]) H.data ⟨rfl,aK _,tE.cells⟩ ⟨rfl,λk x y hx hy=>?_⟩ ai ?_).use ?_
   ·match k,hx,hy with
    | 0,hx,hy=>cases hx;cases hy;exact hr1
    | 1,hx,hy=>cases hx;cases hy;exact gr
    | 2,hx,hy=>cases hx;cases hy;exact cL
    | k+3,hx,hy=>simp at hx
   ·simp only[ji,ui,aq,av,aI];omega
   rintro v w⟨r,rfl,K⟩;(replace H:=Rel.call H K);simp only[aL,aA]at H;refine wk ?_;refine⟨r,rfl,?_⟩;have e:ep p.1=[aM p.1.1,[p.1.2.1],cP p.1.2.2].flatten:=by simp[ep]
   rw[e];exact Rel.back H.sx
 ·refine wk ?_;refine H.nA ?_;clear H;intro w b9 H;obtain⟨V3,aw,H,Cy⟩:=H.bt;have gr:ay V3 ⟨some ⟨b9,0,none⟩,1,1⟩ [p.1.2.1]:=di.iY (l:=[p.1.2.1]) Cy rfl;replace cY:=cY.up aw;try replace hr1:=hr1.up aw
  try replace gr:=gr.up aw
  try replace cL:=cL.up aw
  refine wk ?_;refine wk ?_;refine(iQ H.data h1).use ?_;rintro v w⟨r1,rfl,K⟩;(replace H:=Rel.call H K);simp only[aL,aA]at H;obtain⟨V2,hV2,H,hr1⟩:=Rel.aT H (λ_=>rfl) ag;replace cY:=cY.up hV2;try replace hr1:=hr1.up hV2
  try replace gr:=gr.up hV2
  try replace cL:=cL.up hV2
  refine wk ?_;refine wk ?_;refine(zF H.data cY aa).use ?_;rintro v w⟨r3,rfl,K⟩;(replace H:=Rel.call H K);simp only[aL,aA]at H;obtain⟨V4,aG,H,cL⟩:=Rel.aT H (λ_=>rfl) ag;replace cY:=cY.up aG;try replace hr1:=hr1.up aG
  try replace gr:=gr.up aG
  try replace cL:=cL.up aG
  refine wk ?_;refine H.nA ?_;clear H;intro w mf H;obtain⟨V5,aQ,H,tE⟩:=H.bt;replace cY:=cY.up aQ;try replace hr1:=hr1.up aQ
  try replace gr:=gr.up aQ
  try replace cL:=cL.up aQ
  refine wk ?_;refine(nf (s:=⟨some ⟨mf,0,none⟩,3,3⟩) (hl:=[r1,⟨some ⟨b9,0,none⟩,1,1⟩,r3]) (ll:=[aM p.1.1,[p.1.2.1],cP p.1.2.2]) H.data ⟨rfl,aK _,tE.cells⟩ ⟨rfl,λk x y hx hy=>?_⟩ ai ?_).use ?_
  ·match k,hx,hy with
   | 0,hx,hy=>cases hx;cases hy;exact hr1
   | 1,hx,hy=>cases hx;cases hy;exact gr
   | 2,hx,hy=>cases hx;cases hy;exact cL
   | k+3,hx,hy=>simp at hx
  ·simp only[ji,ui,aq,av,aI];omega
  rintro v w⟨r,rfl,K⟩;(replace H:=Rel.call H K);simp only[aL,aA]at H;refine wk ?_;refine⟨r,rfl,?_⟩;have e:ep p.1=[aM p.1.1,[p.1.2.1],cP p.1.2.2].flatten:=by simp[ep]
  rw[e];exact Rel.back H.sx
theorem UI{W:ae}(hV:Sub V W){s:Sl}{l:List fC}(hs:aB pG V s l){g:FuncId}{cap:aD}{enc:fC->ad}(hone:∀x∈l,uK V g cap ((λp=>.agg (pG p).toArray) x) (enc x))(hll:l.length<=1099511627776)(hb:(bY enc l).length<=1099511627776) :
  aC 225 [s.v,.func (.func g) #[] cap.toArray] W λv w'=>∃r:Sl,v=r.v/\Rel W V [.row r 5 1 ((bY enc l).flatMap aE)] V w':=by
 have H:=Rel.start hV;have hlen:=hs.len;rw[bY,aq]at hb;refine eV Tryz.func225 24 [0,1,4,5,7,11,12,13,14] ?_;refine wk ?_;rw[hlen];refine(iQ (n:=l.length) H.data (by constructor<;>omega)).use ?_;rintro v w⟨r0,rfl,K⟩;replace H:=H.call K;refine wk ?_;refine aY (S:=Nat×Sl) ah [0,1,4,11,12] (λk=>[(5,k.2.v),(13,iv k.1)]) (λk w'=>k.1<=l.length/\∃V1,Sub V V1/\Rel W V [.row k.2 5 1 ((aM l.length++(l.take k.1).flatMap enc).flatMap aE)] V1 w') (λk _=>l.length-k.1) (0,r0) ?_;conv=>whnf
 refine⟨sB,⟨aa,V,Sub.refl _,by simpa using H⟩,?_⟩;clear H;rintro⟨k,r⟩w⟨hk,V1,hV1,H⟩;dsimp only at hk H;by_cases hlt:k<l.length;rotate_left
 ·refine wk ?_;rw[bR aa]at H;exact⟨r,rfl,H.back⟩
 have hbl:=EW (enc:=enc) hlt;obtain⟨hp,nk,jy,An⟩:=(hs.up hV1).mZ (g:=λp:fC=>bv p.1.2.1) (g':=λp:fC=>p.2.v) (g'':=λp:fC=>iv p.1.1) (λ_=>rfl) hlt;refine H.wg ?_;clear H;intro _ _ w H;refine(hone l[k] (cj hlt) V1 w hV1 H.data).use ?_;rintro v w⟨V2,x,hV2,rfl,hx,K⟩;replace H:=H.call K;simp only[aA]at H;refine wk ?_;refine Rel.eJ H (i:=1) rfl hx (by simp only[aq];omega) ?_;clear H;intro rn w H;rw[EV hlt]at H;refine wk ?_;exact⟨sB,(k+1,rn),sB,⟨aa,V2,hV1.trans hV2,H.sx⟩,aa⟩
set_option maxRecDepth 100000 in
set_option maxHeartbeats 1000000 in
theorem afl{W:ae}(hV:Sub V W){s:Sl}{l:ad}(hs:ay V s l)(hl:l.length<=1099511627776){p:Nat}(hp:p<=l.length){m:Int}(hm:0<=m/\m<=4294967296){g:FuncId}{cap:aD}{one:Nat->gH cB}
  (hone:∀q,q<=l.length->Reads V g cap s (λp=>.agg (pG p).toArray) (λV p e=>p.1=e/\ay V p.2 p.1.2.2) q (one q)) (hin:∀q x q',q<=l.length->one q=.ok x q'->q'<=l.length) :
  aC 229 [s.v,iv p,iv m,.func (.func g) #[] cap.toArray] W (Bz Sl.v (RL pG (λV p e=>p.1=e/\ay V p.2 p.1.2.2)) W V (bX l one m p)):=by
 have H:=Rel.start hV;have hlen:=hs.len;have hR:∀(V V':ae) (x:fC) (y:cB),Sub V V'->((λV p e=>p.1=e/\ay V p.2 p.1.2.2):ae->fC->cB->Prop) V x y->((λV p e=>p.1=e/\ay V p.2 p.1.2.2):ae->fC->cB->Prop) V' x y:=λ_ _ _ _ hs h=>⟨h.1,h.2.up hs⟩
 refine eV Tryz.func229 64 [0,1,2,3,8,9,10,11,12,13,14,15,16,17,25,30,40,41,42,53] ?_;refine wk ?_;refine H.nA ?_;clear H;intro w ix H;refine wk ?_;refine(mN H.data hs hl hp).use ?_;rintro v w⟨rfl,K⟩;replace H:=H.call K;simp only[aA]at H;cases hn:cD l p with
 | bad c i =>
  have dR:=mH hn;have hr:bX l one m p=.bad c i:=by rw[bX,hn]
  rw[hr];refine wk ?_;refine H.nA ?_;clear H;intro w iX H;refine H.wg ?_;clear H;intro w H;(first|refine dV 3 [] [0,1,2,3] H ?_|refine dV 11 [] [0,1,2,3] H ?_);clear H;intro w H;refine H.wg ?_;clear H;intro w H;exact⟨V,⟨none,0,0⟩,0,c,i,Sub.refl _,H.sx,rfl,rfl,rfl,dR⟩
 | ok n q0 =>
  obtain⟨h1,h2,h3,h4,h5⟩:=eX hp hn;refine wk ?_;refine H.nA ?_;clear H;intro w iX H;by_cases hb:n<0\/m<n
  ·have hr:bX l one m p=.bad 4 p:=by rw[bX,hn];simp only;rw[if_pos hb]
   rw[hr];by_cases hn0:n<0
   all_goals
    refine H.wg ?_;clear H;intro w H;refine(tt H.data 4 p).use ?_;rintro v w⟨rfl,K⟩;replace H:=H.call K;simp only[aA]at H;refine H.wg ?_;clear H;intro w H;exact⟨V,⟨none,0,0⟩,0,4,p,Sub.refl _,H.sx,rfl,rfl,rfl,ag⟩
  have hr:bX l one m p=dK one n.toNat q0:=by rw[bX,hn];simp only;rw[if_neg hb]
  rw[hr];obtain⟨N,rfl⟩:∃N:Nat,n=N:=⟨n.toNat,aa⟩
  rw[e8];refine H.wg ?_;clear H;intro w H;replace H:=H.cb 281 3;refine aY (S:=Nat×Nat×Sl×List fC×List cB) ah [0,1,2,3,10,11,13,25,30,40] (λk=>[(12,iv k.2.1),(14,k.2.2.1.v),(41,iv k.1)]) (λk w'=>k.1<=N/\k.2.1<=l.length/\k.2.2.2.1.length=k.1/\dK one k.1 q0=.ok k.2.2.2.2 k.2.1/\∃V1,Sub V V1/\Pw (λV p e=>p.1=e/\ay V p.2 p.1.2.2) V1 k.2.2.2.1 k.2.2.2.2/\Rel W V [.row k.2.2.1 281 3 (k.2.2.2.1.flatMap pG),.ax iX [iv 0,iv 0] 31,.ax ix [iv 0,iv 0] 31] V1 w') (λk _=>N-k.1) (0,q0,⟨none,0,0⟩,[],[]) ?_;conv=>whnf
  refine⟨sB,⟨aa,h2,rfl,rfl,V,Sub.refl _,Pw.nil,H.sx⟩,?_⟩;clear H;rintro⟨k,q,r,xs,ys⟩w⟨hk,hq,hxl,j0,V1,hV1,hpw,H⟩;dsimp only at hk hq hxl j0 hpw H;by_cases hlt:k<N;rotate_left
  ·obtain rfl:k=N:=aa;refine H.wg ?_;clear H;intro w H;obtain⟨V2,hV2,H,fw⟩:=Rel.aT H (λ_=>rfl) ag;rw[j0];exact⟨V2,r,q,0,0,hV1.trans hV2,H.sx,rfl,rfl,rfl,rfl,xs,fw,hpw.up hR hV2⟩
  refine wk ?_;refine(hone q hq V1 w hV1 H.data).use ?_;rintro v w⟨V2,x,n2,c,i,hV2,K,rfl,hres⟩;replace H:=H.call K;simp only[aA]at H;cases ho:one q with
  | bad c' i' =>
   rw[ho]at hres;obtain⟨rfl,rfl,dR⟩:=hres;have sf:dK one N q0=.bad c i:=by
    have:=Dg j0 ho (N-(k+1));rwa [show k+1+(N-(k+1))=N by omega]at this
   rw[sf];refine H.wg ?_;clear H;intro _ _ _ _ _ w H;(first|refine dV 3 [] [0,1,2,3] H ?_|refine dV 11 [] [0,1,2,3] H ?_);clear H;intro w H;refine H.wg ?_;clear H;intro w H;exact⟨V2,⟨none,0,0⟩,0,c,i,hV1.trans hV2,H.sx,rfl,rfl,rfl,dR⟩
  | ok y q' =>
   rw[ho]at hres;obtain⟨rfl,rfl,rfl,mG⟩:=hres;have qJ:=hin q y q' hq ho;refine H.wg ?_;clear H;intro _ _ _ _ _ _ _ w H;refine Rel.uN (f:=pG) (l:=xs) (x:=x) ah rfl rfl rfl rfl rfl ag (λ_=>rfl) (bj.1 rfl) H (by simp;omega) aa ?_;clear H;intro rn w H;refine wk ?_;exact⟨sB,(k+1,q',rn,xs++[x],ys++[y]),sB,⟨aa,qJ,by simp[hxl],FQ j0 ho,V2,hV1.trans hV2,(hpw.up hR hV2).snoc mG,H.sx⟩,aa⟩
theorem afa(hs:ay V s l)(hl:l.length<=1099511627776){p:Nat}(hp:p<=l.length):Reads V 230 [] s (λp=>.agg (pG p).toArray) Bw p (lN l p):=by
 intro V1 W1 h1 h2;have H:=Rel.start h2;have hs1:=hs.up h1;have hlen:=hs1.len;refine eV Tryz.func230 49 [0,1,4,5,6,7,8,9,10,20,26] ?_;refine wk ?_;refine H.nA ?_;clear H;intro w b4 H;refine wk ?_;refine H.nA ?_;clear H;intro w b6 H;refine wk ?_;refine(mN H.data hs1 hl hp).use ?_;rintro v w⟨rfl,K⟩;(replace H:=H.az K);cases hn:cD l p with
 | bad c i =>
  have dR:=mH hn;have hr:lN l p=.bad c i:=by rw[lN,hn]
  rw[hr];refine wk ?_;refine H.nA ?_;clear H;intro w b8 H;refine H.wg ?_;clear H;intro w H;(first|refine lA (id:=3) ah mixed (dB [b4]) (λ_ _ _=>dB.trans) [2] [1] [0,1,2,3,4] aj ?_|refine lA (id:=8) ah mixed (dB [b4]) (λ_ _ _=>dB.trans) [7] [6] [0,1,2,3,4,5,6,7,8,9] aj ?_);intro w aR;replace H:=Rel.ext H aR.ext;refine wk ?_;refine And.intro (λw1 kU=>?_) ?_;focus (obtain⟨_,H1⟩:=Rel.ux H (i:=2) rfl rfl kU;clear H;have H:=H1;clear H1;((repeat ((conv=>whnf);first|refine an ?_|((first|refine H.pH ?_|refine H.nw ?_);clear H;intro w _ H)|refine H.ce ?_|refine H.db ?_|refine ea ?_|refine ol ?_|(refine H.st ?_;(conv=>whnf);clear H;intro w H)|refine cT ?_|refine cF ?_|refine cN ?_|refine cM ?_|refine H.lw ?_|refine H.ll ?_));(conv=>whnf));try exact⟨rfl,rfl⟩)
  refine wk ?_;refine Rel.uz H (i:=2) rfl ?_;(conv=>whnf);clear H;intro w H;refine H.wg ?_;clear H;intro w H;exact⟨V1,((0,0,[]),⟨none,0,0⟩),0,c,i,Sub.refl _,H.sx,rfl,rfl,rfl,dR⟩
 | ok n q =>
  obtain⟨g1,g2,g3,g4,g5⟩:=eX hp hn;refine wk ?_;refine H.nA ?_;clear H;intro w b8 H;by_cases hq:q=l.length
  ·have hr:lN l p=.bad 15 q:=by
    rw[lN,hn];simp only;rw[jk aa]
   rw[hr];refine H.wg ?_;clear H;intro w H;refine(zR H.data 15 q).use ?_;rintro v w⟨rfl,K⟩;(replace H:=H.az K);refine H.wg ?_;clear H;intro _ w H;exact⟨V1,((0,0,[]),⟨none,0,0⟩),0,15,q,Sub.refl _,H.sx,rfl,rfl,rfl,ag⟩
  have Rc:q<l.length:=aa;obtain⟨c1,c2⟩:=hs1.aX (g:=bv) (λ_=>rfl) Rc;have hxq:l[q]?=some l[q]:=a8 Rc;refine H.wg ?_;clear H;intro w H;refine(T3 (p:=q+1) H.data hs1 hl aa).use ?_;rintro v w⟨V2,x,ys,n2,c,i,hV2,K,rfl,hx,hres⟩;(replace H:=H.az K);refine H.wg ?_;clear H;intro w H;(first|refine lA (id:=3) ah mixed (dB [b4]) (λ_ _ _=>dB.trans) [2] [1] [0,1,2,3,4] aj ?_|refine lA (id:=8) ah mixed (dB [b4]) (λ_ _ _=>dB.trans) [7] [6] [0,1,2,3,4,5,6,7,8,9] aj ?_);intro w aR;replace H:=Rel.ext H aR.ext;refine wk ?_;refine And.intro (λw1 kU=>?_) ?_;focus (obtain⟨_,H1⟩:=Rel.ux H (i:=2) rfl rfl kU;clear H;have H:=H1;clear H1;((repeat ((conv=>whnf);first|refine an ?_|((first|refine H.pH ?_|refine H.nw ?_);clear H;intro w _ H)|refine H.ce ?_|refine H.db ?_|refine ea ?_|refine ol ?_|(refine H.st ?_;(conv=>whnf);clear H;intro w H)|refine cT ?_|refine cF ?_|refine cN ?_|refine cM ?_|refine H.lw ?_|refine H.ll ?_));(conv=>whnf));try exact⟨rfl,rfl⟩)
  refine wk ?_;refine Rel.uz H (i:=2) rfl ?_;(conv=>whnf);clear H;intro w H;refine H.wg ?_;clear H;intro w H;refine⟨V2,((n,l[q],ys),x),n2,c,i,hV2,H.sx,rfl,?_⟩;rw[lN,hn];simp only;rw[hxq];simp only;cases hch:kJ l (q+1)with
  | bad c' i' =>
   rw[hch]at hres;exact hres
  | ok d r =>
   rw[hch]at hres;obtain⟨e1,e2,e3,e4⟩:=hres;subst e4;exact⟨e1,e2,e3,rfl,hx⟩
theorem adg:∀q x q',q<=l.length->lN l q=.ok x q'->q'<=l.length:=λq x q' hq h=>(Sp hq h).2.1
theorem afH(hV:Sub V W){coding:Nat}(hc:coding<4){s:Sl}{ns:List cB}(hs:rK V s ns)(hl:ns.length<=1000)(hb:∀n∈ns,dx n.1/\n.2.2.length<=65535) :
  aC 146 [iv coding,s.v] W λv w'=>∃r:Sl,v=r.v/\Rel W V [.row r 5 1 ((ln coding ns).flatMap aE)] V w':=by
 have H:=Rel.start hV;obtain⟨ps,hps,hpw⟩:=hs;have xT:=hpw.adk;have Ra:=hpw.len;have ajn:=hps.len;have hn:=fj (n:=(coding:Int)) aa aa;have tQ:bY (λp:fC=>ep p.1) ps=bY ep ns:=by
  rw[<-xT];simp only[bY,bu,List.flatMap_map]
 have hpl:(bY ep ns).length<=70000000:=by
  have:=vI (f:=ep) (m:=65600) (l:=ns) aa λx hx=>by
   obtain⟨⟨a,b⟩,c⟩:=hb x hx;have h1:=fj a b;have h2:=yz (b:=x.2.2) aa;simp only[ep,aq,av];omega
  have h3:=Nat.mul_le_mul_right 65600 hl;omega
 refine eV Tryz.func146 17 [0,1,4,11] ?_;by_cases h1:coding=1
 ·subst h1;have vo:=fj (n:=1) aa aa;by_cases h2:ns.length=0
  ·have hn0:ns=[]:=bL h2;have e:ln 1 ns=[]:=by rw[ln,if_pos ⟨rfl,hn0⟩]
   rw[e];refine wk ?_;exact⟨⟨none,0,0⟩,rfl,H.cb _ _⟩
  have e:ln 1 ns=aM 1++bY ep ns:=by
   rw[ln,if_neg]
   ·rfl
   ·rintro⟨_,h⟩;rw[h]at h2;exact h2 rfl
  rw[e];refine wk ?_;refine(iQ (n:=1) H.data (by constructor<;>omega)).use ?_;rintro v w⟨r1,rfl,K⟩;(replace H:=Rel.call H K);simp only[cm]at H;refine wk ?_;refine(UI (l:=ps) (enc:=λp:fC=>ep p.1) H.data hps (λp hp=>?_) aa (by rw[tQ];omega)).use ?_
  ·obtain⟨i,hi,rfl⟩:=Lv hp;have hin:i<ns.length:=aa;have:=hpw.all i _ _ (a8 hi) (a8 hin);obtain⟨a,b⟩:=hb ps[i].1 (by rw[this.1];exact cj hin);exact Sq _ a aa this.2
  rintro v w⟨r2,rfl,K⟩;(replace H:=Rel.call H K);simp only[aL,aA]at H;refine wk ?_;refine Rel.dD H (i:=0) rfl (by rw[tQ];omega) ?_;clear H;intro rn w H;rw[tQ]at H;refine wk ?_;exact⟨rn,rfl,H⟩
 ·have e:ln coding ns=aM coding++bY ep ns:=by
   rw[ln,if_neg];rintro⟨h,_⟩;exact h1 h
  rw[e];refine wk ?_;refine(iQ (n:=(coding:Int)) H.data (by constructor<;>omega)).use ?_;rintro v w⟨r1,rfl,K⟩;(replace H:=Rel.call H K);simp only[cm]at H;refine wk ?_;refine(UI (l:=ps) (enc:=λp:fC=>ep p.1) H.data hps (λp hp=>?_) aa (by rw[tQ];omega)).use ?_
  ·obtain⟨i,hi,rfl⟩:=Lv hp;have hin:i<ns.length:=aa;have:=hpw.all i _ _ (a8 hi) (a8 hin);obtain⟨a,b⟩:=hb ps[i].1 (by rw[this.1];exact cj hin);exact Sq _ a aa this.2
  rintro v w⟨r2,rfl,K⟩;(replace H:=Rel.call H K);simp only[aL,aA]at H;refine wk ?_;refine Rel.dD H (i:=0) rfl (by rw[tQ];omega) ?_;clear H;intro rn w H;rw[tQ]at H;refine wk ?_;exact⟨rn,rfl,H⟩
theorem yg(c:bO):cV c=true↔c.1.toNat=70\/c.1.toNat=68:=by
 have h1:c.1=70↔c.1.toNat=70:=⟨λh=>by rw[h];rfl,λh=>eF.1 (by rw[h];rfl)⟩
 have h2:c.1=68↔c.1.toNat=68:=⟨λh=>by rw[h];rfl,λh=>eF.1 (by rw[h];rfl)⟩
 simp only[cV,Bool.or_eq_true,beq_iff_eq,h1,h2]
theorem R8{α:Type}{one:Nat->gH α}:∀ {n p q:Nat} {l:List α},dK one n p=.ok l q->l.length=n
 | 0,p,q,l,h=>by
  simp only[dK]at h;cases h;rfl
 | n+1,p,q,l,h=>by
  simp only[dK]at h;split at h
  ·cases h
  ·split at h
   ·cases h
   ·rename_i h2;cases h;simp[R8 h2]
theorem acb{one:Nat->gH α}{m:Int}{p q:Nat}{ys:List α}(h:bX l one m p=.ok ys q):(ys.length:Int)<=m:=by
 unfold bX at h;split at h
 ·cases h
 ·split at h
  ·cases h
  ·have:=R8 h;omega
structure WW(W V:ae)(res:Option (Nat×List cB))(v:ao)(w':ae):Prop where
 ex:∃(V':ae) (r:Sl),Sub V V'/\Rel W V [] V' w'/\(match res with
  | none=>v=.tuple #[iv 0,.slice none 0 0,.bool false]
  | some (c,ns)=>v=.tuple #[iv c,r.v,.bool true]/\rK V' r ns)
theorem afd(hV:Sub V W){s:Sl}{b:ad}(hs:ay V s b)(hl:b.length<=1099511627776):aC 148 [s.v] W (WW W V (lk b)):=by
 have H:=Rel.start hV;have hlen:=hs.len;refine eV Tryz.func148 104 [0,2,3,4,5,6,7,8,9,11,14,31,56,57,58,59,60,98] ?_;by_cases h0:b.length=0
 ·have hb:b=[]:=bL h0;have e:lk b=some (1,[]):=by rw[lk,if_pos hb]
  rw[e];refine wk ?_;exact⟨V,⟨none,0,0⟩,Sub.refl _,H.sx,rfl,rK.nil _⟩
 have hb:b≠[]:=λh=>h0 (by rw[h];rfl);refine wk ?_;refine(mN (p:=0) H.data hs hl (cu _)).use ?_;rintro v w⟨rfl,K⟩;(replace H:=H.az K);cases hn:cD b 0 with
 | bad c i =>
  have dR:=mH hn;have hr:lk b=none:=by rw[lk,if_neg hb,hn]
  rw[hr];refine wk ?_;refine H.nA ?_;clear H;intro w b7 H;refine H.wg ?_;clear H;intro w H;exact⟨V,⟨none,0,0⟩,Sub.refl _,H.sx,rfl⟩
 | ok c q =>
  obtain⟨g1,g2,g3,g4,g5⟩:=eX (cu _) hn;refine wk ?_;refine H.nA ?_;clear H;intro w b7 H;by_cases hc:c<0\/4<=c
  ·have hr:lk b=none:=by
    rw[lk,if_neg hb,hn];simp only;rw[if_pos hc]
   rw[hr];by_cases tG:c<0
   all_goals
    refine H.wg ?_;clear H;intro w H;exact⟨V,⟨none,0,0⟩,Sub.refl _,H.sx,rfl⟩
  have eK:lk b=(match bX b (lN b) 1000 q with
   | .bad _ _=>none
   | .ok ns q=>if q≠b.length\/(c=1/\ns=[])then none else if gj ns.length (-1) ns=true then some (c.toNat,ns)else none):=by
   rw[lk,if_neg hb,hn]
   simp only
   rw[if_neg hc]
   rfl
  obtain⟨C,rfl⟩:∃C:Nat,c=C:=⟨c.toNat,aa⟩
  refine H.wg ?_;clear H;intro w H;refine(afl (m:=1000) H.data hs hl g2 (by constructor<;>omega) (λq hq=>afa hs hl hq) adg).use ?_;rintro v w⟨V2,x,n,c,i,hV2,K,rfl,hres⟩;(replace H:=H.az K);cases gu:bX b (lN b) 1000 q with
  | bad c' i' =>
   rw[gu]at hres eK;obtain⟨rfl,rfl,dR⟩:=hres;rw[eK];refine H.wg ?_;clear H;intro w H;exact⟨V2,⟨none,0,0⟩,hV2,H.sx,rfl⟩
  | ok ns q' =>
   rw[gu]at hres eK;obtain⟨rfl,rfl,rfl,hns⟩:=hres;obtain⟨ps,hps,hpw⟩:=hns;have Ra:=hpw.len;have hxl:=hps.len;have Q1:=acb gu;simp only at eK;by_cases hbad:q'≠b.length\/(C=1/\ns=[])
   ·rw[if_pos (hbad.imp id λh=>⟨aa,h.2⟩)]at eK;rw[eK];by_cases hq:q'=b.length
    ·have h2:C=1/\ns=[]:=hbad.resolve_left λh=>h hq;have h3:ns.length=0:=by rw[h2.2];rfl
     obtain⟨rfl,_⟩:=h2;refine H.wg ?_;clear H;intro w H;exact⟨V2,⟨none,0,0⟩,hV2,H.sx,rfl⟩
    ·refine H.wg ?_;clear H;intro w H;exact⟨V2,⟨none,0,0⟩,hV2,H.sx,rfl⟩
   rw[if_neg (λh=>hbad (h.imp id λh=>⟨aa,h.2⟩))]at eK;have hq:q'=b.length:=qU λh=>hbad (.inl h);have hnn:C=1->ns.length≠0:=λh h2=>hbad (.inr ⟨h,bL h2⟩);by_cases hC:C=1
   ·subst hC;have Q4:=hnn rfl;refine H.wg ?_;clear H;intro w H;refine aY (S:=Nat×Int) ah [0,5,6,7,8,14,31,56,57,58] (λk=>[(9,iv k.2),(59,iv k.1)]) (λk w'=>k.1<=ns.length/\gj ns.length (-1) (ns.take k.1)=true/\k.2=tY (-1) (ns.take k.1)/\Rel W V [.ax b7 [iv 0,iv 0] 31] V2 w') (λk _=>ns.length-k.1) (0, -1) ?_;conv=>whnf
    refine⟨sB,⟨aa,rfl,rfl,H.sx⟩,?_⟩;clear H;rintro⟨k,last⟩w⟨hk,hok,qE,H⟩;dsimp only at hk hok qE H;by_cases hlt:k<ns.length;rotate_left
    ·rw[bR aa]at hok;rw[if_pos hok,e8]at eK;rw[eK];refine wk ?_;exact⟨V2,x,hV2,H.sx,rfl,ps,hps,hpw⟩
    have jZ:k<ps.length:=aa;obtain⟨hp,nk,jy,An⟩:=hps.mZ (g:=λp:fC=>bv p.1.2.1) (g':=λp:fC=>p.2.v) (g'':=λp:fC=>iv p.1.1) (λ_=>rfl) jZ;have my:=(hpw.all k _ _ (a8 jZ) (a8 hlt)).1;generalize ps[k]=p at nk jy An my;have jV:=yg p.1.2;have aaG:p.1.2.1.toNat<256:=dY _;by_cases hnk:zl ns.length last p.1
    ·obtain⟨n1,n2,n3,n4,n5⟩:=hnk;have n3':¬(p.1.2.1.toNat=70\/p.1.2.1.toNat=68):=λh=>by rw[jV.2 h]at n3;cases n3
     have q7:¬((x.len:Nat):Int)+2<=p.1.1:=aa;clear jV;refine H.wg ?_;clear H;intro _ _ w H;refine⟨sB,(k+1,p.1.1),sB,⟨by dsimp only;omega,?_,?_,H.sx⟩,by dsimp only;omega⟩
     ·dsimp only;rw[bZ hlt,St,hok,<-qE,<-my,decide_eq_true ⟨n1,n2,n3,n4,n5⟩];rfl
     ·dsimp only;rw[bZ hlt,Ky,my]
    ·have hno:gj ns.length (-1) ns=false:=Sr hlt (by rw[<-qE,<-my];exact hnk);rw[hno,if_neg ag]at eK;rw[eK];by_cases q1:p.1.2.1.toNat<65
     ·refine H.wg ?_;clear H;intro _ _ w H;exact⟨V2,⟨none,0,0⟩,hV2,H.sx,rfl⟩
     by_cases q2:90<p.1.2.1.toNat
     ·refine H.wg ?_;clear H;intro _ _ w H;exact⟨V2,⟨none,0,0⟩,hV2,H.sx,rfl⟩
     by_cases q3:p.1.2.1.toNat=70
     ·refine H.wg ?_;clear H;intro _ _ w H;exact⟨V2,⟨none,0,0⟩,hV2,H.sx,rfl⟩
     by_cases q4:p.1.2.1.toNat=68
     ·refine H.wg ?_;clear H;intro _ _ w H;exact⟨V2,⟨none,0,0⟩,hV2,H.sx,rfl⟩
     by_cases q5:p.1.1<=last
     ·refine H.wg ?_;clear H;intro _ _ w H;exact⟨V2,⟨none,0,0⟩,hV2,H.sx,rfl⟩
     have q6:(ns.length:Int)+2<=p.1.1:=qU λh=>hnk ⟨aa,aa,by
      cases hf:cV p.1.2 with
      | false=>rfl
      | true=>exact absurd (jV.1 hf) aa,aa,aa⟩
     have q7:((x.len:Nat):Int)+2<=p.1.1:=aa;clear jV hnk;refine H.wg ?_;clear H;intro _ _ w H;exact⟨V2,⟨none,0,0⟩,hV2,H.sx,rfl⟩
   ·refine H.wg ?_;clear H;intro w H;refine aY (S:=Nat×Int) ah [0,5,6,7,8,14,31,56,57,58] (λk=>[(9,iv k.2),(59,iv k.1)]) (λk w'=>k.1<=ns.length/\gj ns.length (-1) (ns.take k.1)=true/\k.2=tY (-1) (ns.take k.1)/\Rel W V [.ax b7 [iv 0,iv 0] 31] V2 w') (λk _=>ns.length-k.1) (0, -1) ?_;conv=>whnf
    refine⟨sB,⟨aa,rfl,rfl,H.sx⟩,?_⟩;clear H;rintro⟨k,last⟩w⟨hk,hok,qE,H⟩;dsimp only at hk hok qE H;by_cases hlt:k<ns.length;rotate_left
    ·rw[bR aa]at hok;rw[if_pos hok,e8]at eK;rw[eK];refine wk ?_;exact⟨V2,x,hV2,H.sx,rfl,ps,hps,hpw⟩
    have jZ:k<ps.length:=aa;obtain⟨hp,nk,jy,An⟩:=hps.mZ (g:=λp:fC=>bv p.1.2.1) (g':=λp:fC=>p.2.v) (g'':=λp:fC=>iv p.1.1) (λ_=>rfl) jZ;have my:=(hpw.all k _ _ (a8 jZ) (a8 hlt)).1;generalize ps[k]=p at nk jy An my;have jV:=yg p.1.2;have aaG:p.1.2.1.toNat<256:=dY _;by_cases hnk:zl ns.length last p.1
    ·obtain⟨n1,n2,n3,n4,n5⟩:=hnk;have n3':¬(p.1.2.1.toNat=70\/p.1.2.1.toNat=68):=λh=>by rw[jV.2 h]at n3;cases n3
     have q7:¬((x.len:Nat):Int)+2<=p.1.1:=aa;clear jV;refine H.wg ?_;clear H;intro _ _ w H;refine⟨sB,(k+1,p.1.1),sB,⟨by dsimp only;omega,?_,?_,H.sx⟩,by dsimp only;omega⟩
     ·dsimp only;rw[bZ hlt,St,hok,<-qE,<-my,decide_eq_true ⟨n1,n2,n3,n4,n5⟩];rfl
     ·dsimp only;rw[bZ hlt,Ky,my]
    ·have hno:gj ns.length (-1) ns=false:=Sr hlt (by rw[<-qE,<-my];exact hnk);rw[hno,if_neg ag]at eK;rw[eK];by_cases q1:p.1.2.1.toNat<65
     ·refine H.wg ?_;clear H;intro _ _ w H;exact⟨V2,⟨none,0,0⟩,hV2,H.sx,rfl⟩
     by_cases q2:90<p.1.2.1.toNat
     ·refine H.wg ?_;clear H;intro _ _ w H;exact⟨V2,⟨none,0,0⟩,hV2,H.sx,rfl⟩
     by_cases q3:p.1.2.1.toNat=70
     ·refine H.wg ?_;clear H;intro _ _ w H;exact⟨V2,⟨none,0,0⟩,hV2,H.sx,rfl⟩
     by_cases q4:p.1.2.1.toNat=68
     ·refine H.wg ?_;clear H;intro _ _ w H;exact⟨V2,⟨none,0,0⟩,hV2,H.sx,rfl⟩
     by_cases q5:p.1.1<=last
     ·refine H.wg ?_;clear H;intro _ _ w H;exact⟨V2,⟨none,0,0⟩,hV2,H.sx,rfl⟩
     have q6:(ns.length:Int)+2<=p.1.1:=qU λh=>hnk ⟨aa,aa,by
      cases hf:cV p.1.2 with
      | false=>rfl
      | true=>exact absurd (jV.1 hf) aa,aa,aa⟩
     have q7:((x.len:Nat):Int)+2<=p.1.1:=aa;clear jV hnk;refine H.wg ?_;clear H;intro _ _ w H;exact⟨V2,⟨none,0,0⟩,hV2,H.sx,rfl⟩
end
abbrev u5(rate ch coding:Nat)(rs rn:Sl):aD:=[iv rate,iv ch,iv coding,rs.v,rn.v]
def fmtS(a:Nat×Nat×Nat)(c:bO):Nat×Nat×Nat:=if c.1=70 then(256*at8 c.2 0+at8 c.2 1,at8 c.2 2,at8 c.2 3)else a
def tv(l:List bO):Nat×Nat×Nat:=l.foldl fmtS (0,0,0)
theorem I0(l:List bO)(c:bO):tv (l++[c])=fmtS (tv l) c:=by simp[tv,List.foldl_append]
theorem ZW(l:List bO):tv l=tv (l.filter cV):=by
 have:∀(l:List bO) (a:Nat×Nat×Nat),l.foldl fmtS a=(l.filter cV).foldl fmtS a:=by
  intro l;induction l with
  | nil=>intro a;rfl
  | cons c l ih =>
   intro a;by_cases h:cV c=true
   ·rw[Dz h,A4,A4,ih]
   ·rw[Gj h,A4,ih];congr 1;unfold fmtS;rw[if_neg];intro h1;exact h ((yg c).2 (.inl (by rw[h1];rfl)))
 exact this l _
theorem Mw{l:List α}(h:k<l.length):l.take (k+1)=l.take k++[l[k]]:=bZ h
def sR(l:List bO):ad:=(l.filter cV).map (·.1)
theorem Mp(l:List bO)(c:bO):sR (l++[c])=sR l++(if cV c=true then[c.1]else[]):=by
 unfold sR;rw[List.filter_append,eZ];congr 1;split
 ·rename_i h;rw[Dz h];rfl
 ·rename_i h;rw[Gj h];rfl
theorem agf(h:sR cs=[70,68]):∃f d,cs.filter cV=[(70,f),(68,d)]:=by
 unfold sR at h;match hf:cs.filter cV,h with
 | [(a,f),(b,d)],h =>
  simp only[fq,kx,List.cons.injEq,and_true]at h;obtain⟨rfl,rfl⟩:=h;exact⟨f,d,rfl⟩
theorem adR(h:sR cs≠[70,68]):wx cs=none:=by
 cases hp:wx cs with
 | none=>rfl
 | some x =>
  obtain⟨f,d⟩:=x;exact absurd (by unfold sR;rw[IU hp];rfl) h
theorem YY{f d:ad}(h:cs.filter cV=[(70,f),(68,d)]):∃i,∃hi:i<cs.length,cs[i]=(68,d)/\∀k,k<i->(hk:k<cs.length)->cs[k].1≠68:=by
 have hm:((68,d):bO)∈cs:=(vS.1 (by rw[h];simp:((68,d):bO)∈cs.filter cV)).1;have hlt:cs.findIdx (λc=>c.1 == 68)<cs.length:=List.findIdx_lt_length_of_exists ⟨_,hm,rfl⟩;refine⟨_,hlt,?_,λk hk iM=>?_⟩
 ·have h1:cs[cs.findIdx (λc=>c.1 == 68)].1=68:=by simpa using List.findIdx_getElem (w:=hlt)
  have h2:cs[cs.findIdx (λc=>c.1 == 68)]∈cs.filter cV:=vS.2 ⟨cj hlt,by rw[yg];right;rw[h1];rfl⟩;rw[h]at h2;simp only[bB,pQ,or_false]at h2;rcases h2 with h2|h2
  ·rw[h2]at h1;cases h1
  ·exact h2
 ·have:=List.not_of_lt_findIdx hk;simpa using this
theorem OV{c:bO}(h:c∈cs.filter cV):c.2.length<=(cs.flatMap dL).length:=by
 have:=PH (vS.1 h).1;omega
structure WM(W V:ae)(res:Option uL)(v:ao)(w':ae):Prop where
 ex:∃(V':ae) (rs rn:Sl),Sub V V'/\Rel W V [] V' w'/\(match res with
  | none=>v=.tuple #[.agg (u5 0 0 0 ⟨none,0,0⟩ ⟨none,0,0⟩).toArray,.bool false]
  | some x=>v=.tuple #[.agg (u5 x.rate x.ch x.coding rs rn).toArray,.bool true]/\aB cK V' rs x.fK/\rK V' rn x.notes)
theorem Zh:Utf8.encode (wr .i32 ((70:UInt8).toNat:Int))=⟨[70].toArray⟩:=by decide +kernel
theorem Zg:Utf8.encode (wr .i32 ((68:UInt8).toNat:Int))=⟨[68].toArray⟩:=by decide +kernel
theorem Zf:runesBytes [70,68]=⟨[70,68].toArray⟩:=by decide +kernel
theorem Oc{P:Program}{s d:TypeId}(hs:(P.underlying s).isSome=true)(hd:P.underlying d=some .string){k:IntKind}{n:Int}{l:ad}(hn:Utf8.encode n=⟨l.toArray⟩){G:ao->ae->Prop}(hk:G (str l) w):bo P (convert s d (.int k n)) w G :=
 Rel.Im hs hd (by rw[hn];exact hk)
section
variable{V W:ae}
theorem afo(hV:Sub V W){s:Sl}{l:ad}(hs:ay V s l)(hl:l.length<=1000):aC 144 [s.v] W (WM W V (nL l)):=by
 have H:=Rel.start hV;have hlen:=hs.len;refine eV Tryz.func144 129 [0,2,3,4,5,6,7,8,9,10,17,19,20,21,22,27,36,41,73,103,121] ?_;refine wk ?_;refine H.nA ?_;clear H;intro w b2 H;refine wk ?_;refine(ae7 H.data hs aa).use ?_;rintro v w⟨V2,r,hV2,K,hres⟩;(replace H:=H.az K);cases hc:oI l with
 | none =>
  rw[hc]at hres;dsimp only at hres;subst hres;have e:nL l=none:=by rw[nL,hc]
  rw[e];refine H.wg ?_;clear H;intro w H;exact⟨V2,⟨none,0,0⟩,⟨none,0,0⟩,hV2,H.sx,rfl⟩
 | some cs =>
  rw[hc]at hres;obtain⟨rfl,ks,Al,Ft⟩:=hres;have e:nL l=sS cs:=by rw[nL,hc]
  rw[e];have fP:=Ft.len;have hrl:=Al.len;have hcl:cs.length<=1000/\∀c∈cs,wX c:=by
   unfold oI at hc;split at hc
   ·obtain⟨h1,h2⟩:=Ez _ _ _ (aK _) hc;have h3:=congrArg List.length h1;have h4:=IY cs;simp only[aq,bd,av,aI]at h3;exact⟨aa,h2⟩
   ·cases hc
  refine wk ?_;refine H.nA ?_;clear H;intro w b6 H;refine wk ?_;replace H:=H.cb 281 3;refine aY (S:=Nat×Sl×List fC) ah [0,2,4,5,6,10,17,19,20,103,121] (λk=>[(7,str (sR (cs.take k.1))),(21,iv k.1)]) (λk w'=>k.1<=cs.length/\(∀c∈cs.take k.1,c.1=70->c.2.length=4)/\Pw Bw V2 k.2.2 (eL 0 (cs.take k.1))/\Rel W V [.row k.2.1 281 3 (k.2.2.flatMap pG),.ax b6 (u5 (tv (cs.take k.1)).1 (tv (cs.take k.1)).2.1 (tv (cs.take k.1)).2.2 ⟨none,0,0⟩ k.2.1) 174,.ax b2 (u5 0 0 0 ⟨none,0,0⟩ ⟨none,0,0⟩) 174] V2 w') (λk _=>cs.length-k.1) (0,⟨none,0,0⟩,[]) ?_;conv=>whnf
  refine⟨sB,⟨aa,ai,Pw.nil,H⟩,?_⟩;clear H;rintro⟨k,rn,os⟩w⟨hk,h4,hpw,H⟩;dsimp only at hk h4 hpw H;have gV:=hpw.len;have hnl:=KR (cs.take k) 0;rw[bb]at hnl;have gg:(sR (cs.take k)).length<=1000:=by
   have:=List.length_filter_le cV (cs.take k);rw[bb]at this;unfold sR;rw[bu];omega
  by_cases hlt:k<cs.length
  ·have jZ:k<ks.length:=aa;obtain⟨hp,nk,jy⟩:=Al.fM (g:=λx:nS=>bv x.1) (g':=λx:nS=>x.2.v) (λ_=>rfl) jZ;have po:=Ft.all k _ _ (a8 jZ) (a8 hlt);have aaJ:=hcl.2 _ (cj hlt);have t1:=Mw hlt;generalize ks[k]=x at nk jy po;obtain⟨xn,xs⟩:=x;obtain⟨hid,mu⟩:=po;dsimp only at hid mu nk jy;obtain⟨c,hcc⟩:∃c,c=cs[k]:=⟨_,rfl⟩
   rw[<-hcc]at hid mu aaJ t1;have hxl:=mu.len;by_cases qw:c.1=70
   ·have jV:cV c=true:=(yg c).2 (.inl (by rw[qw];rfl));rw[hid,qw]at nk;by_cases hl4:c.2.length=4;rotate_left
    ·have:sS cs=none:=by
      unfold sS;cases xU:wx cs with
      | none=>rfl
      | some y =>
       obtain⟨f,d⟩:=y;have cJ:=IU xU;have hm:c∈cs.filter cV:=vS.2 ⟨hcc▸cj hlt,jV⟩;rw[cJ]at hm;simp only[bB,pQ,or_false]at hm;rcases hm with hm|hm
       ·rw[hm]at hl4;simp only;rw[if_neg];exact λh=>hl4 h.1
       ·rw[hm]at qw;cases qw
     rw[this];refine H.wg ?_;clear H;intro _ _ _ w H;exact⟨V2,⟨none,0,0⟩,⟨none,0,0⟩,hV2,H.sx,rfl⟩
    obtain⟨p0,d0⟩:=mu.mh (i:=0) aa;obtain⟨_,d1⟩:=mu.mh (i:=1) aa;obtain⟨_,d2⟩:=mu.mh (i:=2) aa;obtain⟨_,d3⟩:=mu.mh (i:=3) aa;have g0:at8 c.2 0<256:=dY _;have g1:at8 c.2 1<256:=dY _;have g2:at8 c.2 2<256:=dY _;have g3:at8 c.2 3<256:=dY _;have iN:=yu g0 g1;refine H.wg ?_;clear H;intro _ _ w H;(first|refine dV 14 [] [0,1,2,3,4,5,6,7,8,9,10,11,12,13,14,15,16,17,18,19,20,21,22,23,24] H ?_|refine dV 22 [4] [0,1,2,3,5,6,7,4,8,9,10] H ?_);clear H;intro w H;refine wk ?_;rw[iF];refine H.wg ?_;clear H;intro w H;rw[iN]at H;refine Oc aj Tryz.underlying9 Zh ?_;conv=>whnf
    refine And.intro (by simp only[av,aI];omega) ?_;refine wk ?_;refine⟨sB,(k+1,rn,os),?_,⟨by dsimp only;omega,?_,?_,?_⟩,by dsimp only;omega⟩
    ·refine⟨?_,rfl,trivial⟩;rw[t1,Mp,if_pos jV,qw];rfl
    ·dsimp only;rw[t1];intro y hy tX;rcases cq.1 hy with hy|hy
     ·exact h4 y hy tX
     ·rw[cv.1 hy];exact hl4
    ·dsimp only;rw[t1,Dl,if_pos jV,cm];exact hpw
    ·dsimp only;rw[t1,I0];unfold fmtS;rw[if_pos qw];exact H.sx
   by_cases h68:c.1=68
   ·have jV:cV c=true:=(yg c).2 (.inr (by rw[h68];rfl));rw[hid,h68]at nk;refine H.wg ?_;clear H;intro _ _ w H;refine Oc aj Tryz.underlying9 Zg ?_;conv=>whnf
    refine And.intro (by simp only[av,aI];omega) ?_;refine wk ?_;refine⟨sB,(k+1,rn,os),?_,⟨by dsimp only;omega,?_,?_,?_⟩,by dsimp only;omega⟩
    ·refine⟨?_,rfl,trivial⟩;rw[t1,Mp,if_pos jV,h68];rfl
    ·dsimp only;rw[t1];intro y hy tX;rcases cq.1 hy with hy|hy
     ·exact h4 y hy tX
     ·rw[cv.1 hy]at tX;exact absurd tX qw
    ·dsimp only;rw[t1,Dl,if_pos jV,cm];exact hpw
    ·dsimp only;rw[t1,I0];unfold fmtS;rw[if_neg qw];exact H.sx
   have n70:xn.toNat≠70:=λh=>qw (by rw[<-hid];exact eF.1 (by rw[h];rfl));have n68:xn.toNat≠68:=λh=>h68 (by rw[<-hid];exact eF.1 (by rw[h];rfl));have jV:¬cV c=true:=λh=>by
    have:=(yg c).1 h;rw[<-hid]at this;omega
   refine H.wg ?_;clear H;intro _ _ _ _ w H;refine Rel.dI (f:=pG) (l:=os) (x:=(((k:Int),(xn,c.2)),xs)) ah rfl rfl rfl rfl rfl ag (λ_=>rfl) (bj.1 rfl) H (by simp;omega) aa ?_;clear H;intro rn w H;refine H.wg ?_;clear H;intro w H;refine⟨sB,(k+1,rn,os++[(((k:Int),(xn,c.2)),xs)]),?_,⟨by dsimp only;omega,?_,?_,?_⟩,by dsimp only;omega⟩
   ·refine⟨?_,rfl,trivial⟩;rw[t1,Mp,if_neg jV,cm];rfl
   ·dsimp only;rw[t1];intro y hy tX;rcases cq.1 hy with hy|hy
    ·exact h4 y hy tX
    ·rw[cv.1 hy]at tX;exact absurd tX qw
   ·dsimp only;rw[t1,Dl,if_neg jV];refine hpw.snoc ⟨?_,mu⟩;rw[bb,Nat.min_eq_left hk,Nat.zero_add,hid]
   ·dsimp only;rw[t1,I0];unfold fmtS;rw[if_neg qw];exact H.sx
  ·rw[bR aa]at h4 hpw H;rw[bR aa];refine wk ?_;refine H.nA ?_;clear H;intro w HW H;refine wk ?_;refine Rel.YK (zs:=[70,68]) Tryz.underlying141 Tryz.underlying21 Tryz.underlying9 H rfl ?_;rw[Zf];replace H:=H.w9;refine wk ?_;refine BV (λmB=>?_) (λmB=>?_)
   ·have:sS cs=none:=by rw[sS,adR mB]
    rw[this];refine H.wg ?_;clear H;intro w H;exact⟨V2,⟨none,0,0⟩,⟨none,0,0⟩,hV2,H.sx,rfl⟩
   obtain⟨f,d,cJ⟩:=agf mB;have xU:=SV cJ;have hcs:sS cs=if xg f d then some (G2 f d (eL 0 cs))else none:=by rw[sS,xU]
   have hfm:tv cs=(256*at8 f 0+at8 f 1,at8 f 2,at8 f 3):=by
    rw[ZW,cJ];rfl
   have QN:f.length=4:=h4 (70,f) (vS.1 (by rw[cJ];simp:((70,f):bO)∈cs.filter cV)).1 rfl;have hdl:=OV (c:=(68,d)) (by rw[cJ];simp);have hbl:(cs.flatMap dL).length<=1000:=by
    unfold oI at hc;split at hc
    ·obtain⟨h1,h2⟩:=Ez _ _ _ (aK _) hc;have h3:=congrArg List.length h1;simp only[aq,bd,av,aI]at h3;omega
    ·cases hc
   rw[hfm]at H;dsimp only at H;have g0:at8 f 0<256:=dY _;have g1:at8 f 1<256:=dY _;have g2:at8 f 2<256:=dY _;have g3:at8 f 3<256:=dY _;by_cases q1:at8 f 2<1
   ·rw[hcs,if_neg (λh=>by have:=h.2.1;omega)];refine H.wg ?_;clear H;intro w H;exact⟨V2,⟨none,0,0⟩,⟨none,0,0⟩,hV2,H.sx,rfl⟩
   by_cases q2:2<at8 f 2
   ·rw[hcs,if_neg (λh=>by have:=h.2.1;omega)];refine H.wg ?_;clear H;intro w H;exact⟨V2,⟨none,0,0⟩,⟨none,0,0⟩,hV2,H.sx,rfl⟩
   by_cases q3:4<=at8 f 3
   ·rw[hcs,if_neg (λh=>by have:=h.2.2.1;omega)];refine H.wg ?_;clear H;intro w H;exact⟨V2,⟨none,0,0⟩,⟨none,0,0⟩,hV2,H.sx,rfl⟩
   obtain⟨i,hi,Qs,Ae⟩:=YY cJ;have xJ:i<ks.length:=aa;have JP:=Ft.all i _ _ (a8 xJ) (a8 hi);obtain⟨hp,nk,jy⟩:=Al.fM (g:=λx:nS=>bv x.1) (g':=λx:nS=>x.2.v) (λ_=>rfl) xJ;have mu:=JP.data;rw[Qs]at mu;dsimp only at mu hdl;refine wk ?_;refine(YX H.data Al aa xJ (by rw[JP.id,Qs]) (λk hk iM=>by
    rw[(Ft.all k _ _ (a8 iM) (a8 aa)).id];exact Ae k hk aa)).use ?_
   rintro v w⟨rfl,K⟩;(replace H:=H.az K);have Qx:=mu.len;refine wk ?_;(first|refine dV 14 [] [0,1,2,3,4,5,6,7,8,9,10,11,12,13,14,15,16,17,18,19,20,21,22,23,24] H ?_|refine dV 22 [4] [0,1,2,3,5,6,7,4,8,9,10] H ?_);clear H;intro w H;refine wk ?_;refine(iw H.data (256*at8 f 0+at8 f 1) (at8 f 2) (at8 f 3)).use ?_;rintro v w⟨rfl,K⟩;(replace H:=H.az K);refine wk ?_;obtain⟨M,hM⟩:∃M,M=(at8 f 3%2+1)*at8 f 2:=⟨_,rfl⟩
   have hM1:1<=M/\M<=4:=by
    rcases(by omega:at8 f 2=1\/at8 f 2=2)with h|h<;>rw[h]at hM<;>omega
   rw[<-Int.natCast_mul,<-hM];have abb:((ks[i].2.len:Nat):Int)%(M:Int)=((d.length%M:Nat):Int):=by rw[Qx];exact(Int.natCast_emod _ _).symm
   by_cases hm:d.length%M=0;rotate_left
   ·rw[hcs,if_neg (λh=>hm (by rw[hM];exact h.2.2.2))];refine H.wg ?_;clear H;intro w H;exact⟨V2,⟨none,0,0⟩,⟨none,0,0⟩,hV2,H.sx,rfl⟩
   have hok:xg f d:=⟨QN,aa,aa,by rw[<-hM];exact hm⟩
   rw[hcs,if_pos hok];refine wk ?_;refine(Y7 (rate:=256*at8 f 0+at8 f 1) (ch:=at8 f 2) (coding:=at8 f 3) H.data aa aa mu aa (λhw=>Ps (by rw[<-hM];exact hm) (by simpa [aV]using hw))).use ?_;rintro v w⟨rs,rfl,K⟩;(replace H:=Rel.call H K);simp only[aL,aA]at H;refine H.wg ?_;clear H;intro _ w H;obtain⟨V3,aw,H,hrs⟩:=Rel.aT H (λ_=>rfl) ag;obtain⟨V4,aG,H,hrn⟩:=Rel.aT H (λ_=>rfl) ag;exact⟨V4,rs,rn,(hV2.trans aw).trans aG,H.sx,rfl,hrs.up aG,os,hrn,hpw.up (λ_ _ _ _ hs h=>⟨h.1,h.2.up hs⟩) (aw.trans aG)⟩
end
theorem ab0{l:List α}(h:l.length≠0):∃i x,l=i++[x]:=by
 rcases List.eq_nil_or_concat l with rfl|⟨i,x,rfl⟩
 ·simp at h
 ·exact⟨i,x,ai⟩
abbrev zeroV:ar:=.mk 0 0 [] [] []
abbrev eR:VH:=⟨0,0,⟨none,0,0⟩,⟨none,0,0⟩,⟨none,0,0⟩⟩
theorem lu(V:ae):bV V eR zeroV:=.mk [] rfl rfl (aB.nil _ _) (aB.nil _ _) (aB.nil _ _) rfl (λi x p h=>by simp at h)
abbrev kV(n:Int):VH:=⟨1,n,⟨none,0,0⟩,⟨none,0,0⟩,⟨none,0,0⟩⟩
abbrev iZ(s:Sl):VH:=⟨2,0,s,⟨none,0,0⟩,⟨none,0,0⟩⟩
theorem Bj(V:ae)(n:Int):bV V (kV n) (.mk 1 n [] [] []):=.mk [] rfl rfl (aB.nil _ _) (aB.nil _ _) (aB.nil _ _) rfl (λi x p h=>by simp at h)
theorem y7(h:ay V s b):bV V (iZ s) (.mk 2 0 b [] []):=.mk [] rfl rfl h (aB.nil _ _) (aB.nil _ _) rfl (λi x p h=>by simp at h)
theorem Na{ss pl:Sl}{ns:bg}{hs:List VH}{ps:List ar}(h1:aB p7 V ss ns)(h2:aB cr V pl hs)(h3:hs.length=ps.length)(h4:∀(i:Nat) x p,hs[i]?=some x->ps[i]?=some p->bV V x p) :
  bV V ⟨4,0,⟨none,0,0⟩,ss,pl⟩ (.mk 4 0 [] ns ps):=.mk hs rfl rfl (aB.nil _ _) h1 h2 h3 h4
theorem j1(n:Int)(h:0<=n/\n<=100:=by decide):dx n:=⟨aa,aa⟩
theorem Bl{n:Int}(h:dx n):VB B (.mk 1 n [] [] []):=.mk (j1 1) h (cu _) (cu _) ai (cu _) ai
theorem wF(h:b.length<=B):VB B (.mk 2 0 b [] []):=.mk (j1 2) (j1 0) h (cu _) ai (cu _) ai
structure HI where
 v:ar
 r:ad
 c:Int
 i:Int
def br(o:Option (ar×ad))(n:Nat):HI:=if 1000<n then⟨zeroV,[],3, -1⟩else match o with
 | none=>⟨zeroV,[],21, -1⟩
 | some (v,r)=>⟨v,r,0,0⟩
structure l9(W V:ae)(x:HI)(q:ao)(w':ae):Prop where
 ex:∃(V':ae) (h:VH) (r:Sl),Sub V V'/\Rel W V [] V' w'/\q=.tuple #[fb h,r.v,kg x.c x.i]/\bV V' h x.v/\ay V' r x.r
def ct(v:ar)(shape:Bool)(o:fx):ad×Int×Int:=if(bI v).1≠0 then([],bI v)else if shape=false then([],13,0)else match o with
 | none=>([],6, -2)
 | some b=>(b,0,0)
structure mT(W V:ae)(x:ad×Int×Int)(q:ao)(w':ae):Prop where
 ex:∃(V':ae) (r:Sl),Sub V V'/\Rel W V [] V' w'/\q=.tuple #[r.v,kg x.2.1 x.2.2]/\ay V' r x.1
abbrev oT:=ad×Int
inductive zm:bU->aN->bU->Prop where
 | h {r:aN} {l:bU}:zm (r::l) r l
 | t {x r:aN} {l k:bU}:zm l r k->zm (x::l) r (x::k)
inductive zo:bU->bU->Prop where
 | z {l:bU}:zo l []
 | s {l k o:bU} {r:aN}:zm l r k->zo k o->zo l (r::o)
theorem zm.perm{l k:bU}{r:aN}(h:zm l r k):l.Perm (r::k):=by
 induction h with
 | h=>exact List.Perm.refl _
 | t _ ih=>exact(List.Perm.cons _ ih).trans (List.Perm.swap _ _ _)
theorem zo.perm{l o:bU}(h:zo l o):∃k,l.Perm (o++k):=by
 induction h with
 | @z l=>exact⟨l,List.Perm.refl _⟩
 | s h _ ih =>
  obtain⟨k,hk⟩:=ih;exact⟨k,h.perm.trans (List.Perm.cons _ hk)⟩
section
variable{w0 V0 V w:ae}{own:bU}
theorem Rel.pick(H:Rel w0 V0 own V w){o:bU}(h:zo own o:=by repeat constructor):Rel w0 V0 o V w:=by
 obtain⟨k,hk⟩:=h.perm;have hm:∀r∈o,r∈own:=λr hr=>hk.mem_iff.2 (List.mem_append_left _ hr);exact⟨H.base,H.sub,H.old,λr hr=>H.laid r (hm r hr),λr hr=>H.new r (hm r hr),λr hr=>H.hid r (hm r hr),((hk.pairwise_iff (λh=>aN.SA h)).1 H.apart).sublist (List.sublist_append_left _ _),H.data⟩
theorem Rel.less(H:Rel w0 V0 own V w){U:ae}(h1:Sub V0 U)(h2:Sub U V):Rel w0 V0 own U w :=
 ⟨H.base,h1,λb hb hn c t f hc=>H.old b hb hn c t f (h2.bE b c t f hc),H.laid,H.new,λr hr b hb c t f hc=>H.hid r hr b hb c t f (h2.bE b c t f hc),H.apart,h2.trans H.data⟩
end
theorem agX(hT:bK C.P C.T){Rel:ae->ae->Prop}{ops:List Oper}{xs ys:au}{Q:Exit->Act->ae->Prop}{K:Env->ae->Prop}{Z:List PanicEntry->ae->Prop}{ds:List Deferred}{i:Nat}{rest:au}{r:qg}{G:Act->ae->Prop}
  (hZ:∀(a:Act) w ch,a.tmps.size=C.n->a.defers=ds->Z ch w->Q (.panic ch) a w) (hr:∀env (a:Act) w,Sat env a.tmps->a.tmps.size=C.n->a.defers=ds->r env w K Z->G a w) {env:Env} {a:Act} {w:ae} (hs:Sat env a.tmps) (hn:a.tmps.size=C.n) (hd:a.defers=ds)
  (h:AH C Rel ops xs ys i rest r env w K Z):∃o,ops[i]?=some o/\cS C ops xs ys Rel Q i o G a w:=by
 unfold AH at h;obtain⟨o,ho,h⟩:=F1 h;refine⟨o,ho,?_⟩;simp only[cS];rcases Aa h hs with⟨hw,aJ,hs',h'⟩|⟨hw,aJ,hs',h'⟩
 ·rw[if_pos hw];cases hq:k8 C.T o.op with
  | true =>
   rw[if_pos rfl];obtain⟨v,h1,h2⟩:=Ht hT hs' hq h';obtain⟨_,h2⟩:=wB h2;obtain⟨hst,h2⟩:=wB h2;refine⟨v,λw1 hr1=>?_,?_⟩
   ·cases bF:yJ o.op with
    | false=>exact h1 w1 λh=>by simp[bF]at h
    | true =>
     rcases hr1 bF with⟨hi,Ka⟩|rfl
     ·exact Wj hT hs' hq (hst (ua.2 hi) w1 Ka)
     ·exact h1 w1 λ_=>Ext.refl _
   ·obtain⟨dO,h3,h4,h5,h6⟩:=lR h2 hs' hn;exact hr _ _ _ h3 h4 (h5.trans hd) h6
  | false =>
   rw[if_neg ai];refine zb hT hs' h' (λv w' hk=>?_) (λch w' hz=>hZ a w' ch hn hd hz);obtain⟨h1,h2⟩:=wB hk;refine⟨λhi=>h1 (ua.2 hi),?_⟩;obtain⟨dO,h3,h4,h5,h6⟩:=lR (wB h2).2 hs' hn;exact hr _ _ _ h3 h4 (h5.trans hd) h6
 ·rw[if_neg (by simp[hw])];obtain⟨dO,h3,h4,h5,h6⟩:=lR h' hs' hn;exact hr _ _ _ h3 h4 (h5.trans hd) h6
def KZ(C:Cx)(Rel:ae->ae->Prop)(ops:List Oper)(xs ys:au)(E:iI)(_:Nat)(_:au)(r:tc):tc:=λR env w K Z=>match R with
 | []=>K env w
 | i::rest=>match np i E with
  | true=>nX (i::rest) (λj=>AH C Rel ops xs ys j [] (r (tr j (i::rest))) env w K Z) E
  | false=>AH C Rel ops xs ys i [] (r rest) env w K Z
noncomputable def Hq(C:Cx)(Rel:ae->ae->Prop)(ops:List Oper)(xs ys:au)(E:iI)(l:au):tc:=List.rec (motive:=λ_=>tc) SH (KZ C Rel ops xs ys E) l
theorem Wf{C:Cx}(hT:bK C.P C.T){Rel:ae->ae->Prop}{ops:List Oper}{xs ys:au}{E:iI}{Q:Exit->Act->ae->Prop}{K:Env->ae->Prop}{Z:List PanicEntry->ae->Prop}{ds:List Deferred}
  (hQ:∀env (a:Act) w,Sat env a.tmps->a.tmps.size=C.n->a.defers=ds->K env w->Q .normal a w) (hZ:∀(a:Act) w ch,a.tmps.size=C.n->a.defers=ds->Z ch w->Q (.panic ch) a w) :
  ∀ {l R:au} {env:Env} {a:Act} {w:ae},Sat env a.tmps->a.tmps.size=C.n->a.defers=ds->Hq C Rel ops xs ys E l R env w K Z->gQ C ops xs ys Rel Q E l.length R a w
 | [],R,env,a,w,hs,hn,hd,h=>hQ env a w hs hn hd h
 | f::l,[],env,a,w,hs,hn,hd,h=>hQ env a w hs hn hd h
 | f::l,i::rest,env,a,w,hs,hn,hd,h=>by
  have h:KZ C Rel ops xs ys E f l (Hq C Rel ops xs ys E l) (i::rest) env w K Z:=h;have one:∀j R',AH C Rel ops xs ys j [] (Hq C Rel ops xs ys E l R') env w K Z->∀o,ops[j]?=some o->cS C ops xs ys Rel Q j o (gQ C ops xs ys Rel Q E l.length R') a w:=by
   intro j R' hj o ho;obtain⟨o',lI,h'⟩:=agX (ys:=ys) (G:=gQ C ops xs ys Rel Q E l.length R') hT hZ (λenv a w h1 h2 h3 h4=>Wf hT hQ hZ h1 h2 h3 h4) hs hn hd hj;rw[ho]at lI;cases lI;exact h'
  unfold KZ at h;simp only[av,gQ];cases he:np i E with
  | false =>
   simp only[he]at h;exact one i rest h
  | true =>
   simp only[he]at h |-;have mono:∀(E':iI) (f g:Nat->Prop),(∀j,f j->g j)->nX (i::rest) f E'->nX (i::rest) g E':=by
    intro E' f g CF;induction E' with
    | nil=>exact λh=>h
    | cons p E' ih =>
     obtain⟨j,an⟩:=p;simp only[nX];split
     ·split
      ·exact λh=>⟨CF j h.1,ih h.2⟩
      ·exact CF j
     ·exact ih
   exact mono E _ _ (λj hj=>one j _ hj) h
theorem cz(hT:bK C.P C.T)(hm:C.P.follows .mixedOrders=true){id:Nat}{ops:Array Oper}{env:Env}{ds:List Deferred}{w:ae}{Q:ic}(Rel:ae->ae->Prop)(hR:∀a b c:ae,Rel a b->Rel b c->Rel a c)(xs ys π:au)(E:iI)
  (hok:F5 C.T ops.toList xs ys π E=true)
  (h:∀w1,Bt w w1->Hq C Rel ops.toList xs ys E π π env w1 (λaJ w'=>nG aJ C.live λe'=>Q .normal e' ds w') (λch w'=>Q (.panic ch) [] ds w')) :
  aP C (.region id ops true) env ds w Q:=by
 refine⟨λa hs hn hd=>?_⟩;simp only[F5,Bool.and_eq_true,decide_eq_true_eq]at hok;obtain⟨⟨⟨⟨⟨⟨ht,hp⟩,hall⟩,hlen⟩,xR⟩,xP⟩,hE⟩:=hok;have hmem:∀i,i<ops.toList.length->i∈π:=λi hi=>by simpa using bj.1 hall i (by simpa using hi)
 have key:=h { w with drawn:=w.drawn+1 } ⟨rfl,rfl,rfl,rfl,aK _,λ_ _=>rfl⟩;let Q':Exit->Act->ae->Prop:=λe a' w'=>a'.tmps.size=C.n/\match e with
  | .panic ch=>Q (.panic ch) [] a'.defers w'
  | e=>∃aJ,Sat aJ a'.tmps/\Q e aJ a'.defers w'
 refine wpIn_mono (Q:=Q') ?_ (λe a' w' hq=>?_)
 ·refine wpIn_region_any hm ?_;have hg:gQ C ops.toList xs ys Rel Q' E π.length π a { w with drawn:=w.drawn+1 }:=by
   refine Wf hT (ds:=ds) (λaJ a' w' h1 h2 h3 h4=>?_) (λa' w' ch h1 h2 h3=>?_) hs hn hd key
   ·obtain⟨e',h5,h6⟩:=sI h4;exact⟨h2,e',λt v ht=>h1 t v (h5 t v ht),h3▸h6⟩
   ·exact⟨h1,h2▸h3⟩
  have hlt:∀i∈π,i<ops.toList.length:=λi hi=>by simpa using bj.1 xP i hi
  have:=gQ.any (C:=C) (ops:=ops.toList) (xs:=xs) (ys:=ys) (Rel:=Rel) (Q:=Q') hR (λd v ch a w hq=>by
   obtain⟨h1,h2⟩:=hq;refine⟨?_,?_⟩
   ·cases d<;>simpa [Act.put]using h1
   ·cases d<;>exact h2) (λi an hi x hx=>by simpa using bj.1 (bj.1 hE _ hi) x hx) ops.size π (Array.replicate ops.size false) a { w with drawn:=w.drawn+1 } (by simp[hlen]) xR ai (λi hi=>?_) hlt (λi o ho hl=>?_) ht hp hg
  ·simpa using this
  ·have:i<ops.size:=by simpa using hi
   simp[Array.getD,this,hmem i hi]
  ·have:i<ops.size:=by simpa using(List.getElem?_eq_some_iff.1 ho).1
   simp[Array.getD,this]at hl
 ·obtain⟨h1,h2⟩:=hq;cases e with
  | panic ch=>exact⟨h1,[],Sat.nil _,h2⟩
  | _=>exact⟨h1,h2⟩
structure Kv(V w w':ae):Prop where
 up:Sub V w->Sub V w'
theorem Kv.trans(a b c:ae)(h:Kv V a b)(k:Kv V b c):Kv V a c:=⟨λs=>k.up (h.up s)⟩
theorem Kv.of{w':ae}(H:Rel w0 V0 own V w'){w:ae}:Kv V w w':=⟨λ_=>H.data⟩
theorem Kv.go{w':ae}(H:Rel w0 V0 own V w'){w:ae}{p:Prop}(h:p):Kv V w w'/\p:=⟨Kv.of H,h⟩
theorem Kv.in(H:Rel w0 V0 own V w){w1:ae}(h:Kv V w w1):Rel w1 V [] V w1:=Rel.start (h.up H.data)
theorem adT(v:Int){a b:Int}(ha:a=v%256)(hb:b=v/256%256):[Value.int .u8 a,Value.int .u8 b]=(gF true (dz true v)).flatMap aE:=by
 have e1:a=(((v%65536).toNat%256:Nat):Int):=aa;have e2:b=(((v%65536).toNat/256:Nat):Int):=aa;rw[e1,e2];simp only[gF,dz,if_true,bz,List.flatMap_nil,aE,bv,aL,aA];rw[cH aa,cH aa]
theorem agI(l:List Int)(x:Int):kC (l++[x])=kC l++gF true (dz true x):=by simp[kC]
theorem agQ(d:ad)(coding ch:Nat):(e9 d coding ch).length<=d.length:=by
 unfold e9;rw[bu,yZ,sO];split<;>omega
theorem UL{x:uL}(hbl:b.length<=1099511627776)(h:nL b=some x):x.fK.length<=b.length/\x.notes.length<=b.length/\x.coding<4/\(1<=x.ch/\x.ch<=2)/\x.rate<=65535/\(∀y∈x.fK, -32768<=y/\y<=32767)/\∀n∈x.notes,dx n.1/\n.2.2.length<=65535:=by
 obtain⟨cs,f,d,S⟩:=Mt h;have hb:=congrArg List.length S.bytes;have cJ:=IY cs;have kj:=FV S.two;have hd:=OV (c:=(68,d)) (by rw[S.two];simp);have hv:=agQ d (at8 f 3) (at8 f 2);have b0:at8 f 0<256:=dY _;have b1:at8 f 1<256:=dY _;simp only[aq,av,aI]at hb;dsimp only at hd;obtain⟨g1,g2,g3,g4⟩:=S.EX;rw[S.eq];refine⟨by show(e9 d (at8 f 3) (at8 f 2)).length<=_;omega,by show(eL 0 cs).length<=_;omega,g3,g2,by show 256*at8 f 0+at8 f 1<=_;omega,λy hy=>Mv y hy,λn hn=>?_⟩;obtain⟨q1,q2,q3,q4⟩:=AE cs 0 n hn;have:=(S.ok _ q3).2.2;exact⟨⟨aa,aa⟩,aa⟩
theorem agO{bn bp:Nat}{r:Sl}(h1:Cells V (some ⟨bn,0,none⟩) [str wc,str v7,str we])(h2:Cells V (some ⟨bp,0,none⟩) (cr (kV rate)++(cr (kV ch)++cr (iZ r))))(h3:ay V r b) :
  bV V ⟨4,0,⟨none,0,0⟩,⟨some ⟨bn,0,none⟩,3,3⟩,⟨some ⟨bp,0,none⟩,3,3⟩⟩ (p6 rate ch b):=by
 refine Na (hs:=[kV rate,kV ch,iZ r]) ⟨rfl,aK _,h1⟩ ⟨rfl,aK _,h2⟩ rfl λi x p hx hp=>?_;match i,hx,hp with
 | 0,hx,hp=>cases hx;cases hp;exact Bj _ _
 | 1,hx,hp=>cases hx;cases hp;exact Bj _ _
 | 2,hx,hp=>cases hx;cases hp;exact y7 h3
 | k+3,hx,hp=>simp at hx
theorem Wd(h1:dx rate)(h2:dx ch)(h3:b.length<=1048576):VB 1048576 (p6 rate ch b):=by
 refine .mk (j1 4) (j1 0) (cu _) (by show 3<=1048576;decide) (λs hs=>?_) (by show 3<=1048576;decide) λp hp=>?_
 ·simp only[ar.names,bB,pQ,or_false]at hs;rcases hs with rfl|rfl|rfl<;>decide
 ·simp only[ar.parts,bB,pQ,or_false]at hp;rcases hp with rfl|rfl|rfl
  ·exact Bl h1
  ·exact Bl h2
  ·exact wF h3
section
variable{V W:ae}
theorem ado(hV:Sub V W)(n:Int):aC 145 [iv n] W λq w'=>q=fb (kV n)/\Rel W V [] V w':=by
 have H:=Rel.start hV;refine eV Tryz.func145 5 [0,2] ?_;refine wk ?_;refine H.nA ?_;clear H;intro w b2 H;refine H.wg ?_;clear H;intro w H;exact H.sx
theorem Vf(hV:Sub V W){s:Sl}{l:ad}(hs:ay V s l)(hl:l.length<=1099511627776):aC 61 [s.v] W (l9 W V (br (fU l) l.length)):=by
 have H:=Rel.start hV;have hlen:=hs.len;refine eV Tryz.func61 71 [0,2,3,4,5,6,7,9,10,11,14,23,27,28,29,30,60] ?_;refine wk ?_;refine H.nA ?_;clear H;intro w b2 H;refine wk ?_;refine H.nA ?_;clear H;intro w b4 H;by_cases hbig:1000<l.length
 ·have e:br (fU l) l.length=⟨zeroV,[],3, -1⟩:=by unfold br;rw[if_pos hbig]
  rw[e];refine wk ?_;refine(zR H.data 3 (-1)).use ?_;rintro v w⟨rfl,K⟩;(replace H:=H.az K);refine H.wg ?_;clear H;intro _ w H;exact⟨V,eR,⟨none,0,0⟩,Sub.refl _,H.sx,rfl,lu _,aB.nil _ _⟩
 refine wk ?_;refine(afo H.data hs aa).use ?_;rintro v w⟨V2,rs,rn,hV2,K,hres⟩;(replace H:=H.az K);cases hf:nL l with
 | none =>
  rw[hf]at hres;dsimp only at hres;subst hres;have e:br (fU l) l.length=⟨zeroV,[],21, -1⟩:=by unfold br;rw[if_neg hbig,fU,hf]
  rw[e];refine wk ?_;refine H.nA ?_;clear H;intro w b5 H;refine H.wg ?_;clear H;intro w H;refine(zR H.data 21 (-1)).use ?_;rintro v w⟨rfl,K⟩;(replace H:=H.az K);refine H.wg ?_;clear H;intro _ w H;exact⟨V2,eR,⟨none,0,0⟩,hV2,H.sx,rfl,lu _,aB.nil _ _⟩
 | some x =>
  rw[hf]at hres;obtain⟨rfl,hsm,hnt⟩:=hres;obtain⟨m1,m2,m3,m4,m5,m6,m7⟩:=UL hl hf;have hsl:=hsm.len;have e:fU l=yR x:=by rw[fU,hf]
  rw[e];refine wk ?_;refine H.nA ?_;clear H;intro w b5 H;refine H.wg ?_;clear H;intro w H;replace H:=H.cb 5 1;refine aY (S:=Nat×Sl) ah [0,2,3,4,5,6,10,11,14,23,27,28,60] (λk=>[(7,k.2.v),(29,iv k.1)]) (λk w'=>k.1<=x.fK.length/\Rel W V [.row k.2 5 1 ((kC (x.fK.take k.1)).flatMap aE),.ax b5 (u5 x.rate x.ch x.coding rs rn) 174,.ax b4 [iv 0,iv 0] 31,.ax b2 (cr eR) 27] V2 w') (λk _=>x.fK.length-k.1) (0,⟨none,0,0⟩) ?_;conv=>whnf
  refine⟨sB,⟨aa,H.sx⟩,?_⟩;clear H;rintro⟨k,r⟩w⟨hk,H⟩;dsimp only at hk H;have hpl:=G3 (x.fK.take k);rw[bb]at hpl;by_cases hlt:k<x.fK.length
  ·obtain⟨p0,d0⟩:=hsm.aX (g:=iv) (λ_=>rfl) hlt;have t1:=Mw hlt;have hy:=m6 _ (cj hlt);generalize x.fK[k]=y at d0 t1 hy;refine H.wg ?_;clear H;intro _ w H;rw[iF];refine wk ?_;replace H:=H.bA (adT y rfl rfl);replace H:=H.fA (n:=2) (e:=5) (sz:=1) rfl (by simp[maxLen]);refine Rel.dD H (i:=0) rfl (by simp[gF];omega) ?_;clear H;intro r2 w H;rw[<-agI,<-t1]at H;refine wk ?_;exact⟨sB,(k+1,r2),sB,⟨by dsimp only;omega,H.sx⟩,by dsimp only;omega⟩
  rw[bR aa]at H;obtain⟨V3,aw,H,hr⟩:=Rel.aT H (λ_=>rfl) ag;refine wk ?_
  refine aP.uX (λq:Nat×Nat×Nat=>[(2,.pointer (some ⟨b2,0,none⟩)),(3,.slice none 0 0),(4,.pointer (some ⟨b4,0,none⟩)),(5,.pointer (some ⟨b5,0,none⟩)),(11,.pointer (some ⟨q.1,0,none⟩))])
   (λq w'=>Rel W V [.ax q.2.1 [str wc,str v7,str we] 9,.ax q.2.2 (cr (kV x.rate)++(cr (kV x.ch)++cr (iZ r))) 27,.ax q.1 [iv 4,iv 0,.slice none 0 0,.slice (some ⟨q.2.1,0,none⟩) 3 3,.slice (some ⟨q.2.2,0,none⟩) 3 3] 27,.ax b5 (u5 x.rate x.ch x.coding rs rn) 174,.ax b4 [iv 0,iv 0] 31,.ax b2 (cr eR) 27] V3 w') ?_ ?_
  ·(first|refine O7 (id:=13) ah mixed [0,5,15] [1,2,3,4,6,7,8,9,11,12,0,5,10,13,14,15,16] [(0,[]),(5,[]),(10,[5]),(13,[5,10]),(15,[]),(16,[0,5,10,13,15])] aj ?_);intro w aR;replace H:=Rel.ext H aR.ext;repeat' ((first|(refine H.uI ?_;clear H;intros;rename_i w H;constructor)|refine wk ?_);first|refine And.intro ?_ ?_|(refine H.nA ?_;clear H;intro w _ H)|(refine(ado H.data _).use ?_;rintro v w⟨rfl,K⟩;(replace H:=H.az K)))
   all_goals
    refine H.wg ?_;clear H;intro w H;exact⟨(_,_,_),sB,H.pick⟩
  clear H;rintro⟨tg,bn,bp⟩w H;dsimp only at H;obtain⟨V4,aG,H,hbn⟩:=H.bt;obtain⟨V5,aQ,H,hbp⟩:=H.bt;have ajg:=G3 x.fK;have hv:=agO (hbn.cells.fa aQ) hbp.cells ((hr.up aG).up aQ);have hB:VB 1048576 (p6 x.rate x.ch (kC x.fK)):=Wd (by constructor<;>omega) (by constructor<;>omega) aa;refine wk ?_;refine(qe H.data hv hB).use ?_;rintro q w⟨rfl,K⟩;(replace H:=H.az K);by_cases bP:(bI (p6 x.rate x.ch (kC x.fK))).1=0;rotate_left
  ·have e:br (yR x) l.length=⟨zeroV,[],21, -1⟩:=by unfold br;rw[if_neg hbig,yR,if_pos bP]
   rw[e];refine wk ?_;refine(zR H.data 21 (-1)).use ?_;rintro v w⟨rfl,K⟩;(replace H:=H.az K);refine H.wg ?_;clear H;intro _ w H;exact⟨V5,eR,⟨none,0,0⟩,((hV2.trans aw).trans aG).trans aQ,H.sx,rfl,lu _,aB.nil _ _⟩
  have e:br (yR x) l.length=⟨p6 x.rate x.ch (kC x.fK),ln x.coding x.notes,0,0⟩:=by unfold br;rw[if_neg hbig,yR,if_neg (λh=>h bP)]
  rw[e,oQ bP];refine wk ?_;refine dV 16 [6] [0,1,2,3,4,5,7,6,8,9,10] H ?_;clear H;intro w H;refine wk ?_;refine(afH H.data m3 (((hnt.up aw).up aG).up aQ) aa m7).use ?_;rintro v w⟨r2,rfl,K⟩;(replace H:=Rel.call H K);simp only[aL,aA]at H;refine H.wg ?_;clear H;intro _ w H;obtain⟨V6,cg,H,hr2⟩:=Rel.aT H (λ_=>rfl) ag;exact⟨V6,_,r2,(((hV2.trans aw).trans aG).trans aQ).trans cg,H.sx,rfl,hv.up cg,hr2⟩
end
theorem ahX(ch full:Nat)(l:au):eB false ch full l=l:=by
 refine List.ext_getElem? λi=>?_;by_cases hi:i<l.length
 ·rw[Hk (a8 hi),if_neg ai,a8 hi]
 ·rw[jk (by rw[yZ];omega),jk aa]
theorem Mu(b:ad)(ch:Nat):e9 b 1 ch=(fI true b).map (eH true):=by
 unfold e9;rw[show dT 1=false from rfl,show aV 1=true from rfl,ahX]
theorem Ux(h:∀r c s,v.parts=[r,c,s]->¬zp v r c s):lX v=none:=by
 unfold lX;split
 ·rename_i r c s hp;rw[if_neg (h r c s hp)]
 ·rfl
theorem ahn(h:v.parts.length=3):∃r c s,v.parts=[r,c,s]:=by
 match hp:v.parts,h with
 | [r,c,s],_=>exact⟨r,c,s,rfl⟩
theorem aiF(n:Nat)(h:n<65536):IntKind.i16.wrap (n:Int)=eH true n:=by
 have key:∀m p:Int,m=65536->p=32768->(if(true&&decide ((n:Int)%m>=p))=true then(n:Int)%m-m else(n:Int)%m)=eH true n:=by
  rintro m p rfl rfl;simp only[Bool.true_and,ge_iff_le,decide_eq_true_eq,eH,if_true];split<;>split<;>omega
 exact key (2^16) (2^15) ag ag
theorem adD{x y:Nat}(hx:x<256)(hy:y<256):bN .or .u16 (x:Int) ((y*2^8:Nat):Int)=((x+256*y:Nat):Int):=by
 show IntKind.u16.wrap ((BitVec.ofInt 16 (x:Int)|||BitVec.ofInt 16 ((y*2^8:Nat):Int)).toNat:Int)=_;rw[BitVec.toNat_or,oz (by simp only[Nat.reducePow];omega),oz (by simp only[Nat.reducePow];omega)];have e:x|||y*2^8=x+256*y:=by
  rw[mM,Nat.or_comm,<-Nat.two_pow_add_eq_or_of_lt (i:=8) hx];simp only[Nat.reducePow];omega
 rw[e,<-Ec];show((x+256*y:Nat):Int)%65536=_;omega
theorem abE{x y:Nat}(hx:x<256)(hy:y<256):wr .i16 (bN .or .u16 (wr .u16 (x:Int)) (wr .u16 (wr .u16 (y:Int)*2^min (Int.toNat 8) IntKind.u16.bits)))=eH true (x+256*y):=by
 have e0:(2:Int)^min (Int.toNat 8) IntKind.u16.bits=256:=ag;have e1:wr .u16 (x:Int)=x:=by show(x:Int)%65536=x;omega
 have e2:wr .u16 (wr .u16 (y:Int)*256)=((y*2^8:Nat):Int):=by
  show((y:Int)%65536*256)%65536=_;simp only[Nat.reducePow];omega
 rw[e0,e1,e2,adD hx hy,Ec,aiF _ aa]
structure WR(W V:ae)(res:Option (Nat×Nat×ad))(q:ao)(w':ae):Prop where
 ex:∃(V':ae) (r:Sl),Sub V V'/\Rel W V [] V' w'/\(match res with
  | none=>q=.tuple #[iv 0,iv 0,.slice none 0 0,.bool false]
  | some (rate,ch,b)=>q=.tuple #[iv rate,iv ch,r.v,.bool true]/\aB cK V' r (e9 b 1 ch))
section
variable{V W:ae}
theorem RF(hV:Sub V W)(x:VH)(a b:Int):aC 228 [fb x,iv a,iv b] W λq w'=>q=.bool (decide (x.k=1/\a<=x.n/\x.n<=b))/\Rel W V [] V w':=by
 have H:=Rel.start hV;obtain⟨k,n,bs,ss,pl⟩:=x;change aC 228 [.agg [iv k,iv n,bs.v,ss.v,pl.v].toArray,iv a,iv b] W _;refine eV Tryz.func228 22 [0,1,2,3,6] ?_;refine wk ?_;refine H.nA ?_;clear H;intro w b3 H;by_cases h1:k=1;rotate_left
 ·rw[decide_eq_false (λh=>h1 h.1)];refine wk ?_;exact H.sx
 by_cases h2:a<=n;rotate_left
 ·rw[decide_eq_false (λh=>h2 h.2.1)];refine wk ?_;exact H.sx
 by_cases h3:n<=b;rotate_left
 ·rw[decide_eq_false (λh=>h3 h.2.2)];refine wk ?_;rw[decide_eq_false h3];exact⟨rfl,H.sx⟩
 rw[decide_eq_true (⟨h1,h2,h3⟩:k=1/\a<=n/\n<=b)];refine wk ?_;rw[decide_eq_true h3];exact⟨rfl,H.sx⟩
theorem adS(hV:Sub V W){h:VH}{v:ar}(hv:bV V h v)(hB:VB 1048576 v)(hval:(bI v).1=0):aC 147 [fb h] W (WR W V (lX v)):=by
 have H:=Rel.start hV;have e1:=hv.kind;have hns:=hv.names;have hpl:=hv.kt;have lH:=hB.names;have hv0:=hv;obtain⟨k,n,bs,ss,pl⟩:=h;dsimp only at e1 hns hpl;subst e1;change aC 147 [.agg [iv v.kind,iv n,bs.v,ss.v,pl.v].toArray] W _;refine eV Tryz.func147 90 [0,1,2,3,4,5,6,7,8,9,10,20,57,62] ?_;refine wk ?_;refine H.nA ?_;clear H;intro w b1 H;by_cases k4:v.kind=4;rotate_left
 ·rw[Ux λr c s _ h=>k4 h.kind];refine wk ?_;exact⟨V,⟨none,0,0⟩,Sub.refl _,Rel.back H.sx,rfl⟩
 obtain⟨z1,z2,z3⟩:=VX hval k4;rw[k4]at H;refine wk ?_;refine H.nA ?_;clear H;intro w wM H;have H0:Rel W V [.ax wM [str wc,str v7,str we] 9,.ax b1 [iv 4,iv n,bs.v,ss.v,pl.v] 27] V w:=H;obtain⟨V2,hV2,H,aaA⟩:=H0.bt;clear H0;have vp:aB p7 V2 ⟨some ⟨wM,0,none⟩,3,3⟩ [wc,v7,we]:=⟨rfl,aK _,aaA.cells⟩
 refine wk ?_;refine(IM H.data (hns.up hV2) vp aa).use ?_;rintro q w⟨rfl,K⟩;(replace H:=H.az K);by_cases hnn:v.names=[wc,v7,we]
 rotate_left
 ·rw[Ux λr c s _ h=>hnn h.names,decide_eq_false hnn];refine wk ?_;exact⟨V,⟨none,0,0⟩,Sub.refl _,Rel.back H.sx,rfl⟩
 rw[decide_eq_true hnn];have h3:v.parts.length=3:=by rw[<-z1,hnn];rfl
 obtain⟨r,c,s,hps⟩:=ahn h3;have hsh:lX v=if zp v r c s then some (r.num.toNat,c.num.toNat,s.bytes)else none:=by
  unfold lX;rw[hps]
 obtain⟨vq,x0,hx0,a0,a1,a2,a3,a4⟩:=(hv0.up hV2).jE (i:=0) aa;obtain⟨_,x1,cY,c0,c1,c2,c3,c4⟩:=(hv0.up hV2).jE (i:=1) aa;obtain⟨_,x2,jB,d0,d1,d2,d3,d4⟩:=(hv0.up hV2).jE (i:=2) aa;have g0:v.parts[0]=r:=by simp[hps]
 have g1:v.parts[1]=c:=by simp[hps]
 have g2:v.parts[2]=s:=by simp[hps]
 rw[g0]at hx0;rw[g1]at cY;rw[g2]at jB;have k0:=hx0.kind;have k1:=cY.kind;have k2:=jB.kind;have n0:=hx0.num;have n1:=cY.num;have fN:=jB.bytes;have hbl:=fN.len;have Kf:s.bytes.length<=1048576:=(hB.part s (by rw[hps];simp)).bytes;have H0:Rel W V [.ax b1 [iv 4,iv n,bs.v,ss.v,pl.v] 27] V2 w:=H.sx;obtain⟨V3,aw,H,fE⟩:=H0.bt;clear H0;have o3:=fE.bE (i:=4) rfl;replace a0:=aw.cell a0;replace a1:=aw.cell a1;replace a2:=aw.cell a2;replace a3:=aw.cell a3;replace a4:=aw.cell a4;replace c0:=aw.cell c0;replace c1:=aw.cell c1;replace c2:=aw.cell c2;replace c3:=aw.cell c3;replace c4:=aw.cell c4;replace d0:=aw.cell d0;replace d1:=aw.cell d1;replace d2:=aw.cell d2;replace d3:=aw.cell d3;replace d4:=aw.cell d4;refine wk ?_
 refine aP.uX (λq:Nat×Nat×Nat=>[(1,.pointer (some ⟨b1,0,none⟩)),(2,iv 0),(3,iv 0),(4,.slice none 0 0),(5,.bool false),(6,.pointer (some ⟨q.1,0,none⟩)),(7,.pointer (some ⟨q.2.1,0,none⟩)),(8,.pointer (some ⟨q.2.2,0,none⟩))])
  (λq w'=>Rel W V [.ax q.1 (cr x0) 27,.ax q.2.1 (cr x1) 27,.ax q.2.2 (cr x2) 27] V3 w') ?_ ?_
 ·(first|refine cz (id:=3) ah mixed (Kv V3) Kv.trans [12,13,14,15,16] [1,3,5,7,9,11] [0,1,2,3,4,5,6,7,8,9,10,11,12,13,14,15,16,17] [(12,[]),(13,[]),(14,[]),(15,[12,13,14]),(16,[12,13,14,15]),(17,[12,13,14,15,16])] aj ?_|refine cz (id:=10) ah mixed (Kv V3) Kv.trans [] [] [0,1,2,3,4,5,6,7,8,9,10,11,12,13,14,15,16,17,18,19,20] [(18,[]),(19,[18])] aj ?_|refine cz (id:=11) ah mixed (Kv V3) Kv.trans [] [] [0,1,2,3,4,5,6,7,8] [] aj ?_);intro w aR;replace H:=Rel.ext H aR.ext;repeat' ((first|(refine H.uI ?_;clear H;intros;rename_i w H;constructor)|refine wk ?_);(first|refine Kv.go H ?_|refine Kv.go2 H (by assumption) ?_|(refine And.intro (λw1 hkp=>?_) ?_;focus ((first|have H:=Kv.in H hkp|have H:=Kv.gi H (by assumption) hkp);((repeat ((conv=>whnf);first|refine an ?_|refine H.ce ?_|refine H.db ?_|refine ea ?_|refine ol ?_|fail|refine cT ?_|refine cF ?_|refine cN ?_|refine cM ?_|refine H.lw ?_|refine H.ll ?_));(conv=>whnf));all_goals (first|exact⟨rfl,rfl⟩|exact rfl)))|refine And.intro ?_ ?_|(refine H.nA ?_;clear H;intro w _ H)))
  all_goals
   refine H.wg ?_;clear H;intro w H;exact⟨(_,_,_),sB,H.pick⟩
 clear H;rintro⟨b6,b7,b8⟩w H;dsimp only at H;obtain⟨Bp,rH,Hw,HB,Hz⟩:=x0;obtain⟨Bq,rI,Hx,HC,HA⟩:=x1;obtain⟨Hy,Wu,Bo,Ww,Wv⟩:=x2;dsimp only at k0 k1 k2 n0 n1 fN hbl;dsimp only[cr]at H;refine wk ?_;refine(RF H.data ⟨Bp,rH,Hw,HB,Hz⟩ 0 65535).use ?_;rintro q w⟨rfl,K⟩;(replace H:=H.az K);by_cases q0:Bp=1/\0<=rH/\rH<=65535;rotate_left
 ·rw[hsh,if_neg (λh=>q0 ⟨by rw[k0];exact h.rk,by rw[n0];exact h.r0⟩),decide_eq_false q0];refine wk ?_;exact⟨V,⟨none,0,0⟩,Sub.refl _,Rel.back H.sx,rfl⟩
 rw[decide_eq_true q0];refine wk ?_;refine(RF H.data ⟨Bq,rI,Hx,HC,HA⟩ 1 2).use ?_;rintro q w⟨rfl,K⟩;(replace H:=H.az K);by_cases q1:Bq=1/\1<=rI/\rI<=2;rotate_left
 ·rw[hsh,if_neg (λh=>q1 ⟨by rw[k1];exact h.ck,by rw[n1];exact h.c0⟩),decide_eq_false q1];refine wk ?_;exact⟨V,⟨none,0,0⟩,Sub.refl _,Rel.back H.sx,rfl⟩
 rw[decide_eq_true q1];obtain⟨C,hC⟩:∃C:Nat,rI=C:=⟨rI.toNat,aa⟩
 subst hC;have mr:c.num.toNat=C:=by rw[<-n1];simp
 by_cases q2:Hy=2;rotate_left
 ·rw[hsh,if_neg (λh=>q2 (by rw[k2];exact h.sk))];refine wk ?_;exact⟨V,⟨none,0,0⟩,Sub.refl _,Rel.back H.sx,rfl⟩
 have abb:((Bo.len:Nat):Int)%(2*(C:Int))=((s.bytes.length%(2*C):Nat):Int):=by rw[hbl];push_cast;rfl
 have ajf:s.bytes.length%(2*C)=s.bytes.length%2\/s.bytes.length%(2*C)=s.bytes.length%4:=by
  rcases(by omega:C=1\/C=2)with rfl|rfl
  ·left;rfl
  ·right;rfl
 by_cases q3:s.bytes.length%(2*C)=0;rotate_left
 ·rw[hsh,if_neg (λh=>q3 (by rw[<-mr];exact h.s0))];refine wk ?_;exact⟨V,⟨none,0,0⟩,Sub.refl _,Rel.back H.sx,rfl⟩
 have hok:zp v r c s:=⟨k4,hnn,aa,aa,aa,aa,aa,by rw[mr];exact q3⟩
 rw[hsh,if_pos hok,mr];have Fe:aB aE V3 Bo s.bytes:=fN.up aw;have hrl:=sO true s.bytes;rw[if_pos rfl]at hrl;have hev:s.bytes.length%2=0:=aa;refine wk ?_;replace H:=H.cb 3 1;refine aY (S:=Nat×Sl) ah [0,1,2,3,5,6,7,8,9,20,57] (λk=>[(4,k.2.v),(10,iv ((k.1*2:Nat):Int))]) (λk w'=>k.1*2<=s.bytes.length/\Rel W V [.row k.2 3 1 ((((fI true s.bytes).take k.1).map (eH true)).flatMap cK),.ax b6 [iv Bp,iv rH,Hw.v,HB.v,Hz.v] 27,.ax b7 [iv Bq,iv C,Hx.v,HC.v,HA.v] 27,.ax b8 [iv Hy,iv Wu,Bo.v,Ww.v,Wv.v] 27] V3 w') (λk _=>s.bytes.length-k.1*2) (0,⟨none,0,0⟩) ?_;conv=>whnf
 refine⟨sB,⟨aa,H.sx⟩,?_⟩;clear H;rintro⟨k,r4⟩w⟨hk,H⟩;dsimp only at hk H;have hl4:=H.gn (i:=0) rfl (λ_=>rfl) ag;rw[bu,bb]at hl4;by_cases hlt:k*2<s.bytes.length;rotate_left
 ·rw[bR aa]at H;obtain⟨V4,aG,H,hr4⟩:=Rel.aT H (λ_=>rfl) ag;refine wk ?_;(first|refine dV 10 [] [0,1,2,3,4,5,6,7,8,9,10,11,12,13,14,15,16,17,18,19,20] H ?_|refine dV 11 [] [0,1,2,3,4,5,6,7,8] H ?_);clear H;intro w H;refine wk ?_;refine⟨V4,r4,(hV2.trans aw).trans aG,H.sx,?_,?_⟩
  ·rw[show(r.num.toNat:Int)=rH by omega]
  ·rw[Mu];exact hr4
 obtain⟨p0,u0⟩:=Fe.mh (i:=k*2) aa;obtain⟨_,u1⟩:=Fe.mh (i:=k*2+1) aa;have g0:at8 s.bytes (k*2)<256:=dY _;have g1:at8 s.bytes (k*2+1)<256:=dY _;have qF:k<(fI true s.bytes).length:=aa;have gh:=Mw qF;have Fw:=DK (l:=s.bytes) (k:=k) aa;rw[a8 qF,mM 2 k]at Fw;replace Fw:=Option.some.inj Fw;rw[Fw]at gh;refine wk ?_;(first|refine dV 10 [] [0,1,2,3,4,5,6,7,8,9,10,11,12,13,14,15,16,17,18,19,20] H ?_|refine dV 11 [] [0,1,2,3,4,5,6,7,8] H ?_);clear H;intro w H;refine wk ?_;rw[abE g0 g1];have Rm : -32768<=eH true (at8 s.bytes (k*2)+256*at8 s.bytes (k*2+1))/\eH true (at8 s.bytes (k*2)+256*at8 s.bytes (k*2+1))<=32767:=by
  unfold eH;simp only[if_true];split<;>omega
 refine And.intro ⟨aa,aa⟩ ?_;refine H.wg ?_;clear H;intro _ w H;refine Rel.dC (f:=cK) (l:=((fI true s.bytes).take k).map (eH true)) (x:=eH true (at8 s.bytes (k*2)+256*at8 s.bytes (k*2+1))) ah rfl rfl rfl rfl rfl ag (λ_=>rfl) (bj.1 rfl) H (by rw[bu,bb];simp;omega) (by rw[bu,bb];omega) ?_;clear H;intro rn w H;refine wk ?_;refine⟨sB,(k+1,rn),⟨rfl,congrArg (λz=>some (Value.int .i64 z)) (by dsimp only;omega),trivial⟩,⟨by dsimp only;omega,?_⟩,by dsimp only;omega⟩;dsimp only;rw[gh,eZ,fq,kx];exact H.sx
end
end Go.Proofs.YtmoiobegbpkkbaaGreatDoor
