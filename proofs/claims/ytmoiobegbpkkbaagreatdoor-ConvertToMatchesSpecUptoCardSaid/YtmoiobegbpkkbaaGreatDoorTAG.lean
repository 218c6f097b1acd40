import Derived.Test.YtmoiobegbpkkbaaGreatDoorTAF
import Derived.Shelf.Strings.Cut
import Derived.Lib.BytesEntry
import Derived.Lib.IndexEntry
import Derived.Shelf.Spec.DecodeRune
import Derived.Shelf.Bytes.SlTrimWalks
open Array renaming getElem?_eq_some_iff->ku
open Bool renaming and_eq_true->eD,or_eq_true->rY,false_and->qw,false_ne_true->Fe,and_true->OO,eq_iff_iff->Jk
open Go.Lib renaming run_indexByteString->WT,indexByte_ge->Xg
open Go.Value renaming int->bO
open List renaming range->bZ,getElem?_map->ib,all_eq_true->bc,mem_cons->bP,append_nil->aZ,length_nil->aK,length_cons->aq,take_of_length_le->bJ,append_assoc->bj,cons_append->bb,nil_append->aL,mem_map->cJ,length_append->ak,length_take->bg,length_drop->aU,length_singleton->bT,length->bU,mem_append->cc,mem_filterMap->tE,eq_nil_of_length_eq_zero->dt,pairwise_append->BN,pairwise_cons->qv,getElem_mem->bS,set_cons_succ->fa,take_succ_eq_append_getElem->bK,take_length->fA,drop_succ_cons->wG,flatMap_append->cw,mem_singleton->cz,length_pos_iff->iC,getElem?_eq_getElem->bz,drop_zero->lj,getElem?_cons_zero->Ja,head?_cons->gJ,set_cons_zero->bH,length_map->aW,map_append->dU,getElem_cons_zero->qA,getElem_cons_succ->OI,ne_nil_of_length_pos->Xb,count_cons->Ff
open Nat renaming le_refl->aQ,le_trans->qu,zero_add->dR
open UInt8 renaming ofNat->aD,toNat_inj->bL
namespace Go.Proofs.YtmoiobegbpkkbaaGreatDoor
open Go Go.RowKit
set_option maxRecDepth 100000
set_option maxHeartbeats 8000000
variable{b l d t:ab}{V V' W w0 V0 w:ad}{S:List cv}{hs:List (Nat×Sl)}{dl:Sl}{own:cx}{c s:UInt8}{a B i n:Nat}{C:Cx}{k:Bool}{P:Program}
structure aaf(W V:ad)(o:Option qR)(v:aj)(w':ad):Prop where
 ex:∃(V':ad) (a b:Int) (f:Nat) (r ps:Sl),Sub V V'/\Rel W V [] V' w'/\(match o with
  | none=>v=.tuple #[iv a,iv b,r.v,.agg (ml f ps).toArray,.bool false]
  | some x=>v=.tuple #[iv x.wd,iv x.ht,r.v,.agg (ml x.f ps).toArray,.bool true]/\aF V' r x.px/\pL V' ps x.pal)
theorem Wv(h:b.take 4≠Fm):nF b=none:=by unfold nF;rw[ae h]
theorem Ww(h:(b.drop 4).length<3):nF b=none:=by
 unfold nF;split
 ·split
  ·rename_i he;rw[he]at h;simp at h;omega
  rfl
 rfl
theorem Wu(h:b.take 4=Fm){f w t:UInt8}{l:ab}(he:b.drop 4=f::w::t::l):nF b=BG f.toNat w.toNat t.toNat l:=by unfold nF;rw[ag h,he]
theorem aiX(hV:Sub V W){s:Sl}{l:ab}(hs:aF V s l)(hl:l.length<=1000):aB 132 [s.v] W (aaf W V (nF l)):=by
 have H:=aG hV;refine nX al Tryz.func132 rfl av 107 rfl ah [0,2,3,4,5,6,7,21,57,60,71,91] ?_;refine aM.cA al ?_;refine H.wn ?_;intro w b5 H;refine wk ?_;refine aM.cA al ?_;refine H.wn ?_;intro w bm H;refine wk ?_;refine Rel.C2 (l:=[82,65,83,49]) Tryz.underlying22 Tryz.underlying5 H rfl ?_;intro V1 w hV1 hm H;refine wk ((C5 H.data (hs.up hV1) hm).use ?_);rintro v w⟨⟨r,rfl,hr⟩,K⟩;replace H:=H.bd K;have MP:([82,65,83,49]:ab).length=4:=rfl;rw[MP]at hr |-;refine wk ?_;by_cases hp:l.take 4=Fm;rotate_left
 ·rw[Wv hp,bA hp];refine aM.cA al ?_;refine H.wg ?_;intro w H;exact⟨_,_,_,0,⟨none,0,0⟩,⟨none,0,0⟩,hV1,H.sx,rfl⟩
 rw[bw hp];replace hr:=hr hp;have hrl:=hr.len;by_cases h3:(l.drop 4).length<3
 ·rw[Ww h3];refine aM.cA al ?_;refine H.wg ?_;intro w H;exact⟨_,_,_,0,⟨none,0,0⟩,⟨none,0,0⟩,hV1,H.sx,rfl⟩
 obtain⟨x0,x1,x2,T,hL⟩:∃x0 x1 x2 T,l.drop 4=x0::x1::x2::T:=by
  match hd:l.drop 4,h3 with
  | x0::x1::x2::T,_=>exact⟨x0,x1,x2,T,rfl⟩
  | [],h=>simp at h
  | [_],h=>simp at h
  | [_,_],h=>simp at h
 have uw:T.length+7<=1000:=by have:=ax bU hL;simp at this;omega
 rw[hL]at hr hrl;rw[Wu hp hL];have z0:=x0.toNat_lt;have z1:=x1.toNat_lt;have z2:=x2.toNat_lt;obtain⟨p0,c0⟩:=hr.aR (g:=bv) (i:=0) (λ_=>rfl) ah;obtain⟨p1,c1⟩:=hr.aR (g:=bv) (i:=1) (λ_=>rfl) ah;obtain⟨p2,c2⟩:=hr.aR (g:=bv) (i:=2) (λ_=>rfl) ah;simp only[qA,OI]at c0 c1 c2;have cP:=hr.cap;simp only[aq]at hrl;have ht:=hr.rest (k:=3) ah;simp only[wG,lj]at ht;refine aM.cA al ?_;refine wk ?_;refine aM.cA al ?_;refine dS (id:=4) [b5] [13] [6,7,10,11] [0,1,2,3,4,5,6,7,8,9,10,11,12,13,14,15] H ?_;intro w H;repeat ((refine wk ?_);(refine And.intro (λw1 ma=>?_) ?_;focus (obtain⟨_,H1⟩:=Rel.Cd H (i:=0) rfl rfl ma;clear H;have H:=H1;clear H1;((repeat ((conv=>whnf);first|refine an ?_|((first|refine H.qo ?_|refine H.nw ?_);intro w _ H)|refine H.ce ?_|refine H.db ?_|refine ea ?_|refine ol ?_|(refine H.st ?_;(conv=>whnf);intro w H)|refine cT ?_|refine cF ?_|refine cN ?_|refine cM ?_|refine H.lw ?_|refine H.ll ?_));(conv=>whnf));try exact⟨rfl,rfl⟩)))
 refine wk ?_;refine Rel.FN H (i:=0) rfl ?_;(conv=>whnf);intro w H;refine wk ?_;refine aM.cA al ?_;refine wk ?_;refine aM.cA al ?_;refine wk ((al7 x0.toNat w z0).use ?_);rintro v w'⟨rfl,rfl⟩;unfold BG;by_cases hk:p9 x0.toNat/\nK x1.toNat/\nK x2.toNat;rotate_left
 ·rw[ae hk];unfold p9 nK at hk;by_cases j9:x0.toNat<64/\x0.toNat%16<4;rotate_left
  ·rw[bA j9];refine H.wg ?_;intro w H;exact⟨_,_,_,0,⟨none,0,0⟩,⟨none,0,0⟩,hV1,H.sx,rfl⟩
  rw[bw j9];by_cases q1:x1.toNat<1
  ·refine H.wg ?_;intro w H;exact⟨_,_,_,0,⟨none,0,0⟩,⟨none,0,0⟩,hV1,H.sx,rfl⟩
  by_cases q2:64<x1.toNat
  ·refine H.wg ?_;intro w H;exact⟨_,_,_,0,⟨none,0,0⟩,⟨none,0,0⟩,hV1,H.sx,rfl⟩
  by_cases q3:x2.toNat<1
  ·refine H.wg ?_;intro w H;exact⟨_,_,_,0,⟨none,0,0⟩,⟨none,0,0⟩,hV1,H.sx,rfl⟩
  refine H.wg ?_;intro w H;exact⟨_,_,_,0,⟨none,0,0⟩,⟨none,0,0⟩,hV1,H.sx,rfl⟩
 rw[ag hk];obtain⟨j9,⟨w1,w2⟩,h1,h2⟩:=hk;unfold p9 at j9;rw[bw j9];refine wk ?_
 refine aM.lq al (λq:Sl×Sl=>[(2,iv (x1.toNat:Nat)),(3,iv (x2.toNat:Nat)),(4,.slice none 0 0),(5,.pointer (some ⟨b5,0,none⟩)),(6,.bool true),(7,q.1.v)])
  (λq w'=>∃V2 pal T2,Sub V1 V2/\Rel W V [.ay b5 (ml x0.toNat q.2) 160] V2 w'/\qH x0.toNat T=some (pal,T2)/\aF V2 q.1 T2/\pL V2 q.2 pal) ?_ ?_
 ·refine wk (H.us (U5 H.data z0 ⟨none,0,0⟩) ?_);intro w H;unfold qH;by_cases h32:x0.toNat<32
  ·rw[bw h32,ag h32];refine wk (H.us (G3 H.data z0 ⟨none,0,0⟩) ?_);intro w H;refine wk ?_;refine(aiP H.data ht aa h32).use ?_;rintro q w⟨V2,rp,t,hV2,K,hk⟩;replace H:=H.bd K;cases hpl:jq x0.toNat T with
   | none =>rw[hpl]at hk;obtain rfl:=hk;refine H.wg ?_;intro _ w H;exact⟨_,_,_,0,⟨none,0,0⟩,⟨none,0,0⟩,hV1.trans hV2,H.sx,rfl⟩
   | some y =>obtain⟨pal,T2⟩:=y;rw[hpl]at hk;obtain⟨rfl,l8,jG⟩:=hk;refine H.wg ?_;intro w H;exact⟨(t,rp),sB,V2,pal,T2,hV2,H.sx,rfl,jG,l8⟩
  rw[bA h32,ae h32];refine wk ?_;exact⟨(_,⟨none,0,0⟩),sB,V1,[],T,aS _,H.sx,rfl,ht,aA.nil _ _⟩
 clear H;rintro⟨q,rp⟩w⟨V2,pal,T2,hV2,H,yF,hq,l8⟩;dsimp only at H hq l8;have hpo:=(JT yF).2;rw[yF];have cD:=hq.len;have xS:T2.length<=T.length:=by have:=ax bU (JT yF).1;simp at this;omega
 refine aM.go al ?_;dsimp only;have fR:=hV1.trans hV2;match T2,hq,cD,xS,yF with
 | [],hq,cD,xS,yF =>rw[aK]at cD;refine wk ?_;refine dV 12 [] [0,1,2,3,4,5,6,7,8,9,10,11,12,13,14,15,16,17,18] H ?_;intro w H;refine H.wg ?_;intro w H;exact⟨_,_,_,0,⟨none,0,0⟩,⟨none,0,0⟩,fR,H.sx,rfl⟩
 | [_],hq,cD,xS,yF =>rw[bT]at cD;refine wk ?_;refine dV 12 [] [0,1,2,3,4,5,6,7,8,9,10,11,12,13,14,15,16,17,18] H ?_;intro w H;refine H.wg ?_;intro w H;exact⟨_,_,_,0,⟨none,0,0⟩,⟨none,0,0⟩,fR,H.sx,rfl⟩
 | x::y::B,hq,cD,xS,yF =>
  simp only[aq]at cD xS;obtain⟨p0,c0⟩:=hq.aR (g:=bv) (i:=0) (λ_=>rfl) ah;obtain⟨p1,c1⟩:=hq.aR (g:=bv) (i:=1) (λ_=>rfl) ah;simp only[qA,OI]at c0 c1;have hx:=x.toNat_lt;have hy:=y.toNat_lt;have lK:=yU hx hy;have Bd:=hq.cap;have hb:=hq.rest (k:=2) ah;simp only[wG,lj]at hb;refine wk ?_;refine dV 12 [] [0,1,2,3,4,5,6,7,8,9,10,11,12,13,14,15,16,17,18] H ?_;intro w H;refine wk ?_;rw[sJ];refine wk ?_;rw[lK];rw[show BE x0.toNat pal x1.toNat x2.toNat (x::y::B)=if 256*x.toNat+y.toNat=B.length then(match oE x0.toNat pal x1.toNat x2.toNat B with|none=>none|some px=>some ⟨x1.toNat,x2.toNat,x0.toNat,pal,px⟩)else none from rfl];by_cases hlen:256*x.toNat+y.toNat=B.length;rotate_left
  ·rw[ae hlen];refine H.wg ?_;intro w H;exact⟨_,_,_,0,⟨none,0,0⟩,⟨none,0,0⟩,fR,H.sx,rfl⟩
  rw[ag hlen];refine wk ?_;refine dV 14 [] [0,1,2,3,4,5,6,7,8,9,10] H ?_;intro w H;refine wk ?_;refine(aiS H.data j9.1 l8 hpo hb aa w1 w2 h2).use ?_;rintro v w⟨V3,r3,aw,K,hres⟩;replace H:=H.bd K;cases iO:oE x0.toNat pal x1.toNat x2.toNat B with
  | none =>rw[iO]at hres;obtain rfl:=hres;refine wk ?_;refine dV 15 [] [0,1,2,3,4,5,6,7,8,9] H ?_;intro w H;refine H.wg ?_;intro w H;exact⟨V3,_,_,_,⟨none,0,0⟩,rp,fR.trans aw,H.sx,rfl⟩
  | some px =>rw[iO]at hres;obtain⟨rfl,hr3⟩:=hres;refine wk ?_;refine dV 15 [] [0,1,2,3,4,5,6,7,8,9] H ?_;intro w H;refine H.wg ?_;intro w H;exact⟨V3,0,0,0,r3,rp,fR.trans aw,H.sx,rfl,hr3,l8.up aw⟩
theorem ahz{x:qR}(h:nF l=some x):(1<=x.wd/\x.wd<=64)/\(1<=x.ht/\x.ht<=64)/\x.f<64/\mW x.f x.pal/\x.px.length<=12288:=by obtain⟨B,d,R,P⟩:=IY h;have w:=P.wd;have t:=P.ht;have hm:x.ht*(3*x.wd)<=64*192:=Nat.mul_le_mul t.2 (by have:=w.2;omega);exact⟨w,t,P.fl.1,P.pal,by rw[P.EY.1];omega⟩
theorem ak0(hV:Sub V W){s:Sl}{l:ab}(hs:aF V s l)(hl:l.length<=1099511627776):aB 58 [s.v] W (mY W V (cH (fh l) l.length)):=by
 have H:=aG hV;have hlen:=hs.len;refine eV Tryz.func58 39 [0,2,3,4,5,6,7,8,9,10,13,24,32] ?_;refine H.wn ?_;intro w b2 H;refine H.wn ?_;intro w b4 H;by_cases dz:1000<l.length
 ·have e:cH (fh l) l.length=⟨zeroV,[],3, -1⟩:=by unfold cH;rw[ag dz]
  rw[e];refine wk (H.us (Lr H.data 3 (-1)) ?_);intro w H;refine H.wg ?_;intro _ w H;exact⟨V,aV,⟨none,0,0⟩,aS _,H.sx,rfl,cG _,aA.nil _ _⟩
 refine wk ?_;refine(aiX H.data hs aa).use ?_;rintro v w⟨V2,a,b,f,r,ps,hV2,K,hres⟩;replace H:=H.bd K;cases hf:nF l with
 | none =>
  rw[hf]at hres;obtain rfl:=hres;have e:cH (fh l) l.length=⟨zeroV,[],21, -1⟩:=by unfold cH;rw[ae dz,fh,hf]
  rw[e];refine H.wg ?_;intro _ _ w H;refine H.us (Lr H.data 21 (-1)) ?_;intro w H;refine H.wg ?_;intro _ w H;exact⟨V2,aV,⟨none,0,0⟩,hV2,H.sx,rfl,cG _,aA.nil _ _⟩
 | some x =>
  rw[hf]at hres;obtain⟨rfl,k8,aeC⟩:=hres;obtain⟨⟨m1,m2⟩,⟨m3,m4⟩,m5,m6,m7⟩:=ahz hf;refine H.wn ?_;intro w b8 H;refine H.wg ?_;intro w H;refine(ahG H.data x.wd x.ht k8 aa).use ?_;rintro q w⟨V3,h,aw,K,rfl,hv⟩;replace H:=H.bd K;have hB:VB 1048576 (kp x.wd x.ht x.px):=Qj (by constructor<;>omega) (by constructor<;>omega) aa;refine H.wn ?_;intro w GB H;refine H.wg ?_;intro w H;refine H.us (Ct H.data hv hB) ?_;intro w H;by_cases hvf:(ct (kp x.wd x.ht x.px)).1=0;rotate_left
  ·have e:cH (fh l) l.length=⟨zeroV,[],21, -1⟩:=by unfold cH;rw[ae dz,fh,hf];simp only;rw[ag hvf]
   rw[e];refine wk (H.us (Lr H.data 21 (-1)) ?_);intro w H;refine H.wg ?_;intro _ w H;exact⟨V3,aV,⟨none,0,0⟩,hV2.trans aw,H.sx,rfl,cG _,aA.nil _ _⟩
  have e:cH (fh l) l.length=⟨kp x.wd x.ht x.px,mN x.f x.pal,0,0⟩:=by unfold cH;rw[ae dz,fh,hf];simp only;rw[ae (λq=>q hvf)]
  rw[e,zO hvf];refine wk ?_;refine dV 7 [2] [0,1,3,2,4,5,6] H ?_;intro w H;refine wk ((aje H.data m5 (aeC.up aw) m6.le).use ?_);rintro v w⟨r2,rfl,K⟩;replace H:=H.cq K;refine H.wg ?_;intro _ w H;obtain⟨V6,bC,H,hr2⟩:=Rel.aJ H;exact⟨V6,_,r2,(hV2.trans aw).trans bC,H.sx,rfl,hv.up bC,hr2⟩
theorem SQ(hV:Sub V W)(c i:Int):aB 165 [iv c,iv i] W λv w'=>v=kV c i/\Rel W V [] V w':=by have H:=aG hV;refine eV Tryz.func165 8 [0,1,4] ?_;refine H.wg ?_;intro _ _ w H;exact H.sx
theorem Sp(hV:Sub V W){fl:Nat}(hf:fl<4):aB 303 [iv (fl:Int)] W λv w'=>v=str (G4 (cQ fl))/\Rel W V [] V w':=by
 have H:=aG hV;obtain rfl|rfl|rfl|rfl:fl=0\/fl=1\/fl=2\/fl=3:=aa
 all_goals
  refine eV Tryz.func303 6 [0,2,5] ?_;refine wk ?_;exact H.sx
theorem acL(hV:Sub V W){fl:Nat}(hf:fl<4):aB 254 [iv (fl:Int)] W λv w'=>v=str (cW fl)/\Rel W V [] V w':=by
 have H:=aG hV;obtain rfl|rfl|rfl|rfl:fl=0\/fl=1\/fl=2\/fl=3:=aa
 all_goals
  refine eV Tryz.func254 6 [0,2,5] ?_;refine wk ?_;exact H.sx
theorem HM(c:UInt8)(lo:Bool)(hV:Sub V W):aB 174 [bv c,.bool lo] W λv w'=>v=iv (jR lo c)/\Rel W V [] V w':=by
 have H:=aG hV;have hc:=c.toNat_lt;refine eV Tryz.func174 32 [0,1,4,7,16,27] ?_;refine wk ((gd _ _ _ _).use ?_);rintro v w'⟨rfl,rfl⟩;by_cases h1:48<=c.toNat/\c.toNat<=57
 ·have e:jR lo c=(c.toNat:Int)-48:=by unfold jR eO;rw[ag h1];simp only;omega
  rw[bw aa,e];refine wk ?_;rw[show wr .u8 ((c.toNat:Int)-48)=(c.toNat:Int)-48 by show((c.toNat:Int)-48)%256=_;omega];refine wk ?_;exact H.sx
 rw[bA aa];refine wk ?_;cases lo with
 | true =>
  refine wk ((gd _ _ _ _).use ?_);rintro v w'⟨rfl,rfl⟩;by_cases h2:97<=c.toNat/\c.toNat<=102
  ·have e:jR true c=(c.toNat:Int)-87:=by unfold jR eO;rw[ae h1,ag ⟨rfl,h2⟩];simp only;omega
   rw[bw aa,e];refine wk ?_;rw[show wr .u8 ((c.toNat:Int)-97)=(c.toNat:Int)-97 by show((c.toNat:Int)-97)%256=_;omega];refine wk ?_;exact⟨ax iv aa,H.sx⟩
  have e:jR true c = -1:=by unfold jR eO;rw[ae h1,ae (λq=>h2 q.2),ae (λq=>Fe q.1.symm)]
  rw[bA aa,e];refine wk ?_;exact H.sx
 | false =>
  refine wk ((gd _ _ _ _).use ?_);rintro v w'⟨rfl,rfl⟩;by_cases h2:65<=c.toNat/\c.toNat<=70
  ·have e:jR false c=(c.toNat:Int)-55:=by unfold jR eO;rw[ae h1,ae (λq=>Fe q.1),ag ⟨rfl,h2⟩];simp only;omega
   rw[bw aa,e];refine wk ?_;rw[show wr .u8 ((c.toNat:Int)-65)=(c.toNat:Int)-65 by show((c.toNat:Int)-65)%256=_;omega];refine wk ?_;exact⟨ax iv aa,H.sx⟩
  have e:jR false c = -1:=by unfold jR eO;rw[ae h1,ae (λq=>Fe q.1),ae (λq=>h2 q.2)]
  rw[bA aa,e];refine wk ?_;exact H.sx
theorem akA(hV:Sub V W){s:Sl}{l:ab}(hs:aF V s l)(hl:l.length<=1000000):aB 304 [s.v] W λv w'=>v=.int .u8 ((gT l%256:Nat):Int)/\Rel W V [] V w':=by
 have H:=aG hV;have hlen:=hs.len;refine eV Tryz.func304 17 [0,2,3,5,6,7,8,9] ?_;refine wk ?_;refine aP (S:=Nat) al [0,2,6,7] (λk=>[(3,.int .u8 ((gT (l.take k)%256:Nat):Int)),(8,iv k)]) (λk w'=>k<=l.length/\Rel W V [] V w') (λk _=>l.length-k) 0 ?_;conv=>whnf
 refine⟨sB,⟨aa,H⟩,?_⟩;clear H;rintro k w⟨hk,H⟩;by_cases hlt:k<l.length
 ·obtain⟨p0,c0⟩:=hs.aR (g:=bv) (λ_=>rfl) hlt;have e:=PI hlt;obtain⟨x,hx⟩:∃x,x=gT (l.take k):=⟨_,rfl⟩
  obtain⟨c,hc⟩:∃c,c=l[k]:=⟨_,rfl⟩
  rw[<-hx,<-hc]at e;rw[<-hc]at c0;rw[<-hx];refine wk ?_;refine⟨sB,k+1,⟨ax (λz=>some (bO .u8 z)) ?_,ax (λz=>some (iv z)) aa,trivial⟩,⟨aa,H⟩,aa⟩;rw[e];show(((x%256:Nat):Int)+(c.toNat:Int))%256=_;omega
 refine wk ?_;rw[bJ aa];exact⟨rfl,H⟩
theorem xr(l:ab):(⟨l.toArray⟩:ByteArray).size=l.length:=by simp[ByteArray.size]
theorem TP(hV:Sub V W)(s p:ab)(_:s.length<=1000000000):aB 351 [str s,str p] W λv w'=>v=.bool (decide (s.take p.length=p))/\Rel W V [] V w':=by
 have H:=aG hV;refine eV Tryz.func351 18 [0,1,4] ?_;refine wk ?_;rw[xr,xr];by_cases hl:p.length<=s.length
 ·refine wk ?_;rw[xr];refine wk ?_;exact H.sx
 have:s.take p.length≠p:=λq=>by have:=ax bU q;rw[bg]at this;omega
 rw[bA this];refine wk ?_;exact H.sx
theorem abJ(hV:Sub V W)(t:ab)(hs:t.length<=1000000):aB 301 [str (58::t),str [58]] W λv w'=>v=.tuple #[str t,.bool true]/\Rel W V [] V w':=by
 have H:=aG hV;refine eV Tryz.func301 11 [0,1,4,5] ?_;refine wk ?_;refine fY.use (K:=λv w'=>v=.tuple #[str t,.bool true]/\Rel W V [] V w') ?_ ?_
 ·refine eV Tryz.func323 15 [0,1,4,5,9] ?_;refine wk ?_;refine H.us (TP H.data (58::t) [58] (by simp only[aq];omega)) ?_;intro w H;rw[bw (show(58::t).take ([58]:ab).length=[58]from rfl)];refine wk ?_;refine⟨⟨ai,by show(1:Int)<=((58::t).length:Nat);simp only[aq];omega⟩,?_⟩;refine wk ?_;refine⟨?_,H.sx⟩;rw[fA];rfl
 rintro v w⟨rfl,K⟩;replace H:=H.bd K;refine wk ?_;exact H.sx
theorem abI(hV:Sub V W)(s:ab)(hs:s.length<=1000000)(h:s.take 1≠[58]):aB 301 [str s,str [58]] W λv w'=>v=.tuple #[str s,.bool false]/\Rel W V [] V w':=by
 have H:=aG hV;refine eV Tryz.func301 11 [0,1,4,5] ?_;refine wk ?_;refine fY.use (K:=λv w'=>v=.tuple #[str s,.bool false]/\Rel W V [] V w') ?_ ?_
 ·refine eV Tryz.func323 15 [0,1,4,5,9] ?_;refine wk ?_;refine H.us (TP H.data s [58] aa) ?_;intro w H;rw[bA (show ¬s.take ([58]:ab).length=[58]from h)];refine wk ?_;exact H.sx
 rintro v w⟨rfl,K⟩;replace H:=H.bd K;refine wk ?_;exact H.sx
theorem ag7:∀x,x<16->∀y,y<16->cI .or .i64 ((x*16:Nat):Int) ((y:Nat):Int)=((16*x+y:Nat):Int):=by decide +kernel
structure aak(W V:ad)(o:fV)(v:aj)(w':ad):Prop where
 ex:∃(V':ad) (r:Sl),Sub V V'/\Rel W V [] V' w'/\v=.tuple #[r.v,.bool o.isSome]/\∀raw,o=some raw->aF V' r raw
theorem aiQ(hV:Sub V W){fl:Nat}(hf:fl<4)(s:ab)(hs:s.length<=100000):aB 255 [str s,iv (fl:Int)] W (aak W V (pG (cQ fl) s)):=by
 have H:=aG hV;refine eV Tryz.func255 77 [0,1,4,5,6,7,8,9,10,23,27,48] ?_;refine wk ?_;by_cases hp:s.take 1=[58]
 rotate_left
 ·refine H.us (abI H.data s aa hp) ?_;intro w H;have e:pG (cQ fl) s=none:=by
   cases s with
   | nil=>rfl
   | cons c t=>rw[Jt,ae λq=>hp (by rw[q.1];rfl)]
  rw[e];refine wk ?_;exact⟨V,⟨none,0,0⟩,aS _,H.sx,rfl,λ_ h=>by cases h⟩
 obtain⟨t,rfl⟩:∃t,s=58::t:=by
  cases s with
  | nil=>cases hp
  | cons c t =>
   have:c=58:=by simpa using hp
   exact⟨t,by rw[this]⟩
 rw[aq]at hs;refine H.us (abJ H.data t aa) ?_;intro w H;by_cases hpar:t.length%2=0;rotate_left
 ·have e:=aiK (lo:=cQ fl) hpar;refine wk ?_;rw[xr];rw[e];refine wk ?_;exact⟨V,⟨none,0,0⟩,aS _,H.sx,rfl,λ_ h=>by cases h⟩
 refine wk ?_;rw[xr];refine wk ?_;replace H:=H.br 5 1;refine aP (S:=Nat×Sl×ab) al [0,1,6,23] (λk=>[(7,k.2.1.v),(8,iv ((2*k.1:Nat):Int))]) (λk w'=>2*k.1<=t.length/\k.2.2.length=k.1/\fI (cQ fl) k.2.2=t.take (2*k.1)/\Rel W V [.row k.2.1 5 1 (k.2.2.flatMap aI)] V w') (λk _=>t.length-k.1) (0,⟨none,0,0⟩,[]) ?_;conv=>whnf
 refine⟨sB,⟨aa,rfl,rfl,H⟩,?_⟩;clear H;rintro⟨k,r,raw⟩w⟨hk,hrl,Ea,H⟩;dsimp only at hk hrl Ea H |-;by_cases hlt:2*k<t.length
 ·have h1:2*k+1<t.length:=aa;have gb:∀j (hj:j<t.length),eO (cQ fl) t[j]=none->pG (cQ fl) (58::t)=none:=λj hj h=>aiJ hj h;refine wk ?_;rw[xr];refine wk ?_;have g0:t[(((2*k:Nat):Int)).toNat]?=some t[2*k]:=bz hlt;have g1:t[(((2*k:Nat):Int)+1).toNat]?=some t[2*k+1]:=by rw[show(((2*k:Nat):Int)+1).toNat=2*k+1 by omega];exact bz h1
  refine dV 8 [] [0,2,3,4,6,8,9,10,11,1,5,7,12,13,14] H ?_;intro w H;refine wk (H.us (Sp H.data hf) ?_);intro w H;refine wk ((Bg _ _ _).use ?_);rintro v w'⟨rfl,rfl⟩;refine wk (H.us (Sp H.data hf) ?_);intro w H;refine wk ((Bg _ _ _).use ?_);rintro v w'⟨rfl,rfl⟩;rw[show ∀c:UInt8,((c.toNat:Int)).toNat.toUInt8=c from λc=>by simp,show ∀c:UInt8,((c.toNat:Int)).toNat.toUInt8=c from λc=>by simp,So,So];refine wk ?_;cases hx:eO (cQ fl) t[2*k]with
  | none =>have pt:=HH.2 hx;have e:=gb _ hlt hx;generalize jR (cQ fl) t[2*k]=z at pt;rw[e];refine wk ?_;exact⟨V,⟨none,0,0⟩,aS _,H.sx,rfl,λ_ h=>by cases h⟩
  | some x =>
  cases hy:eO (cQ fl) t[2*k+1]with
  | none =>have pt:=DL hx;have Ig:=HH.2 hy;have e:=gb _ h1 hy;rw[pt];generalize jR (cQ fl) t[2*k+1]=z at Ig;rw[e];refine wk ?_;exact⟨V,⟨none,0,0⟩,aS _,H.sx,rfl,λ_ h=>by cases h⟩
  | some y =>
  obtain⟨x1,x2⟩:=AY hx;obtain⟨y1,y2⟩:=AY hy;rw[DL hx,DL hy];refine wk ?_;rw[show(x:Int)*2^min (Int.toNat 4) IntKind.i64.bits=((x*16:Nat):Int)by show(x:Int)*16=_;omega];refine H.wg ?_;intro _ w H;rw[ag7 x x1 y y1,show bO .u8 (wr .u8 ((16*x+y:Nat):Int))=bv (aD (16*x+y))by simp only[bv];rw[dB aa];congr 1;show((16*x+y:Nat):Int)%256=_;omega]at H
  refine Rel.bF (f:=aI) (l:=raw) (x:=aD (16*x+y)) rfl (λ_=>rfl) (by simp[Value.oneCell',bv]) H (by show(raw.length+1)*1<=_;omega) aa ?_;intro r1 w H;refine wk ?_;refine⟨sB,(k+1,r1,raw++[aD (16*x+y)]),⟨rfl,ax (λz=>some (iv z)) (by dsimp only;omega),trivial⟩,⟨by dsimp only;omega,by simp[hrl],?_,H⟩,by dsimp only;omega⟩;dsimp only;have e2:t.take (2*k+1+1)=t.take (2*k)++[t[2*k],t[2*k+1]]:=by rw[bK h1,bK hlt,bj];rfl
  rw[<-ad0 x1 y1,Ea,show 2*(k+1)=2*k+1+1 by omega,e2,<-x2,<-y2]
 have gk:2*k=t.length:=aa;rw[gk,fA]at Ea;obtain⟨V2,hV2,H,hr⟩:=Rel.aJ H;have yx:=hr.len;refine wk ?_;rw[xr];refine wk ?_;rw[<-Ea,aiI];by_cases h5:5<=raw.length;rotate_left
 ·rw[ae λq=>h5 q.1];refine wk ?_;exact⟨V2,r,hV2,H.sx,rfl,λ_ h=>by cases h⟩
 obtain⟨p0,c0⟩:=hr.aR (g:=bv) (λ_=>rfl) (i:=0) aa;have mG:b8 raw 0=(raw[0]'aa).toNat:=by simp[b8,show 0<raw.length by omega]
 have Us:=(raw[0]'aa).toNat_lt;by_cases h6:raw.length=5+b8 raw 0;rotate_left
 ·rw[ae λq=>h6 q.2.1];rw[mG]at h6;refine wk ?_;exact⟨V2,r,hV2,H.sx,rfl,λ_ h=>by cases h⟩
 have Dk:=h6;rw[mG]at Dk;refine wk ?_;refine H.us (akA H.data hr aa) ?_;intro w H;by_cases h7:gT raw%256=0
 ·rw[ag ⟨h5,h6,h7⟩];refine wk ?_;rw[h7];exact⟨V2,r,hV2,H.sx,rfl,λ_ h=>by cases h;exact hr⟩
 rw[ae λq=>h7 q.2.2];refine wk ?_;exact⟨V2,r,hV2,H.sx,by rw[bA aa];rfl,λ_ h=>by cases h⟩
section
open Go Go.RowKit Go.Shelf
def ai5:Shelf.Ren:=⟨λx=>if x=145 then 253 else if x=217 then 324 else if x=219 then 322 else if x=220 then 300 else if x=224 then 338 else if x=225 then 334 else if x=266 then 331 else if x=267 then 350 else if x=314 then 372 else x,
 λx=>if x=3 then 3 else if x=4 then 4 else if x=5 then 5 else if x=9 then 9 else if x=46 then 132 else if x=51 then 321 else if x=59 then 311 else if x=146 then 391 else x,
 λx=>if x=1 then 2 else x⟩
theorem afr:Lays.n145 Tryz.prog ai5 where
 mixed:=av
 f145:=Tryz.func253.trans (ax some av)
 f217:=Tryz.func324.trans (ax some av)
 f219:=Tryz.func322.trans (ax some av)
 f220:=Tryz.func300.trans (ax some av)
 f224:=Tryz.func338.trans (ax some av)
 f225:=Tryz.func334.trans (ax some av)
 f266:=Tryz.func331.trans (ax some av)
 f267:=Tryz.func350.trans (ax some av)
 f314:=Tryz.func372.trans (ax some av)
 t3:=Tryz.underlying3
 a3:=Tryz.isAgg3
 z3:=Tryz.sizeOf3
 v3:=Tryz.zeroValue3
 t4:=Tryz.underlying4
 a4:=Tryz.isAgg4
 z4:=Tryz.sizeOf4
 v4:=Tryz.zeroValue4
 t5:=Tryz.underlying5
 a5:=Tryz.isAgg5
 z5:=Tryz.sizeOf5
 v5:=Tryz.zeroValue5
 t9:=Tryz.underlying9
 a9:=Tryz.isAgg9
 z9:=Tryz.sizeOf9
 v9:=Tryz.zeroValue9
 t46:=Tryz.underlying132
 a46:=Tryz.isAgg132
 z46:=Tryz.sizeOf132
 v46:=Tryz.zeroValue132
 t51:=Tryz.underlying321
 a51:=Tryz.isAgg321
 z51:=Tryz.sizeOf321
 v51:=Tryz.zeroValue321
 t59:=Tryz.underlying311
 a59:=Tryz.isAgg311
 z59:=Tryz.sizeOf311
 v59:=Tryz.zeroValue311
 t146:=Tryz.underlying391
 a146:=Tryz.isAgg391
 z146:=Tryz.sizeOf391
 v146:=Tryz.zeroValue391
 g1:=av
def vm(V:ad):Prop:=∃m:Int,V.cell? ⟨2,0,none⟩=some (.int .i64 m)
theorem vm.up(h:vm V)(k:Sub V V'):vm V':=by obtain⟨m,hm⟩:=h;exact⟨m,k.cell hm⟩
theorem ab1(hV:Sub V W)(hM:vm V)(s sep:ab)(hs:s.length<4294967281):aB 253 [str s,str sep] W λv w'=>v=.tuple #[str (Lib.cut s sep).1,str (Lib.cut s sep).2.1,.bool (Lib.cut s sep).2.2]/\Rel W V [] V w':=by obtain⟨m,hm⟩:=hM.up hV;refine fY.uT Tryz.func253 av av (Calls.nD (Any.strings_Cut afr ⟨s.toArray⟩ ⟨sep.toArray⟩ m W (by show s.toArray.size<_;simpa using hs) hm) λe w' ⟨he,n,hw⟩=>⟨_,he,rfl,?_⟩);subst hw;exact Rel.ext (aG hV) ⟨rfl,rfl,rfl,aQ _,λ_ _=>rfl⟩
end
abbrev lx(h:Nat×Sl):aC:=[iv (h.1:Int),h.2.v]
abbrev mX(V:ad)(h:Nat×Sl)(s:cv):Prop:=h.1=s.1/\aF V h.2 s.2
theorem mX.up:∀(V V':ad) (x:Nat×Sl) (y:cv),Sub V V'->mX V x y->mX V' x y:=λ_ _ _ _ k h=>⟨h.1,h.2.up k⟩
structure pS(V:ad)(S:List cv)(hs:List (Nat×Sl))(dl:Sl)(d:ab):Prop where
 ex:(S=[]/\hs=[])\/∃(P:List cv) (a:Nat) (hP:List (Nat×Sl)),S=P++[(a,d)]/\hs=hP++[(a,dl)]/\Pw mX V hP P
theorem pS.up{V V':ad}{S:List cv}{hs:List (Nat×Sl)}{dl:Sl}{d:ab}(h:pS V S hs dl d)(k:Sub V V'):pS V' S hs dl d:=by
 rcases h.ex with h|⟨P,a,hP,h1,h2,h3⟩
 ·exact⟨.inl h⟩
 exact⟨.inr ⟨P,a,hP,h1,h2,h3.up mX.up k⟩⟩
theorem pS.len{V:ad}{S:List cv}{hs:List (Nat×Sl)}{dl:Sl}{d:ab}(h:pS V S hs dl d):hs.length=S.length:=by
 rcases h.ex with⟨h1,h2⟩|⟨P,a,hP,h1,h2,h3⟩
 ·rw[h1,h2];rfl
 rw[h1,h2,ak,ak,h3.len];rfl
theorem pS.all(h:pS V S hs dl d)(hd:aF V dl d):Pw mX V hs S:=by
 rcases h.ex with⟨h1,h2⟩|⟨P,a,hP,h1,h2,h3⟩
 ·rw[h1,h2];exact Pw.nil
 rw[h1,h2];exact h3.snoc ⟨rfl,hd⟩
theorem Rel.Yp(H:Rel w0 V0 own V w){i sz:Nat}{s:Sl}{e:TypeId}{xs:aC}(hi:own[i]?=some (.row s e sz xs))(j:Nat)(hj:j<s.len*sz){b o:Nat}(hb:b=bW s.a)(ho:o=bM s.a+j){v:aj}{k:ad->Prop}
  (hk:∀w',Rel w0 V0 (own.set i (.row s e sz (xs.set j v))) V w'->k w'):∃c t',oR w b c t'/\gS c o [v] λc'=>∀w',mZ w b c' t' w'->k w':=by
 have hr:=H.rowAt hi;rcases hr.at_ with⟨_,h2,_⟩|⟨b0,cur,h1,h2,h3,h4,h5,h6⟩
 ·rw[h2,Nat.zero_mul]at hj;omega
 rw[h1]at hb ho;simp only[bW,bM,dR]at hb ho;subst hb ho;have hbl:oR w b cur.toList e:=h2;have hle:=Nat.mul_le_mul_right sz h3;refine⟨cur.toList,e,hbl,JB (by rw[Array.length_toList,h5];omega) λw' hu=>hk w' ?_⟩;have hu':=hu;obtain⟨fz,cs,v7,rfl⟩:=hu.wd;refine H.put hi rfl rfl rfl ah (λk _ hk=>hu'.other λe=>hk (by rw[e];simp[aT.at_,h1])) ⟨by rw[List.length_set,hr.len],.inr ⟨b,(cur.toList.set o v).toArray,h1,hu'.row hbl ah,h3,h4,by simp[h5],?_⟩⟩ λk hk=>.inl hk;rw[<-h6];simp[List.take_set]
theorem X5(hP:List (Nat×Sl))(x:Nat)(a b:Sl):((hP++[(x,a)]).flatMap lx).set (hP.length*2+1) b.v=(hP++[(x,b)]).flatMap lx:=by have hl:(hP.flatMap lx).length=hP.length*2:=kW (n:=2) (λ_=>rfl) hP;rw[cw,cw,List.set_append_right _ _ aa,hl,show hP.length*2+1-hP.length*2=1 by omega];rfl
theorem aaB{bx b4:Nat}{c4:aC}{t4:TypeId}{sz sg c:Sl}{Z:au}{cs:ab}{fl:Nat}
  (H:Rel w0 V0 [.row sz 3 1 ((ints Z).flatMap bN),.row sg 316 2 (hs.flatMap lx),.row dl 5 1 (d.flatMap aI),.ay bx [sg.v,sz.v,iv (fl:Int)] 211,.ay b4 c4 t4] V W)
  (hS:pS V S hs dl d) (uv:S.length<=100000) (od:Z.length<=100000) (hdl:d.length<=100000) (hc:aF V c cs) (hcl:cs.length<=1000) (_:a<=65536) (hok:mT S) :
  aB 256 [.pointer (some ⟨bx,0,none⟩),iv (a:Int),c.v] W λ_ w'=>∃(V':ad) (sz' qG sZ:Sl) (hs':List (Nat×Sl)) (d':ab),Sub V V'/\pS V' (na a cs S) hs' sZ d' /\
   Rel w0 V0 [.row sz' 3 1 ((ints (Z++[cs.length])).flatMap bN),.row qG 316 2 (hs'.flatMap lx),.row sZ 5 1 (d'.flatMap aI),.ay bx [qG.v,sz'.v,iv (fl:Int)] 211,.ay b4 c4 t4] V' w':=by
 generalize hw0:W=wz at H;subst hw0;have uy:=hc.len;have A4:=hS.len;have fu:=H.dW (i:=1) rfl (λ_=>rfl) ai;have dK:(ints Z).length=Z.length:=ah;refine eV Tryz.func256 67 [0,1,2,6,7,25,44] ?_;refine H.wg ?_;intro _ w H;refine Rel.bF (f:=bN) (l:=ints Z) (x:=(c.len:Int)) rfl (λ_=>rfl) (by simp[Value.oneCell']) H (by show((ints Z).length+1)*8<=_;omega) aa ?_;intro sz' w H;rw[show ints Z++[(c.len:Int)]=ints (Z++[cs.length])by simp[uy]]at H;refine H.wg ?_;intro w H;rcases hS.ex with⟨rfl,rfl⟩|⟨P,x,hP,rfl,rfl,vK⟩
 ·have anb:sg.len=0:=by simpa using fu
  refine wk ?_;refine dV 6 [7,9] [0,1,2,3,4,5,6,7,8,9,10,11,12,13] H ?_;intro w H;refine wk ?_;refine(xz H.data hc aa).use ?_;rintro v w⟨r,rfl,K⟩;replace H:=H.cq K;refine H.wg ?_;intro _ w H;refine Rel.ub (f:=lx) (l:=[]) (x:=(a,r)) rfl (λ_=>rfl) (by simp[Value.oneCell']) H (by show(0+1)*32<=_;omega) ah ?_;intro qG w H;refine H.wg ?_;intro w H;have H0:Rel w0 V0 [.row dl 5 1 (d.flatMap aI),.row sz' 3 1 ((ints (Z++[cs.length])).flatMap bN),.row qG 316 2 ([(a,r)].flatMap lx),.row r 5 1 (cs.flatMap aI),.ay bx [qG.v,sz'.v,iv (fl:Int)] 211,.ay b4 c4 t4] V w:=H.pick;obtain⟨V2,hV2,H,hd⟩:=Rel.aJ H0;exact⟨V2,sz',qG,r,[(a,r)],cs,hV2,⟨.inr ⟨[],a,[],by rw[KB];rfl,rfl,Pw.nil⟩⟩,H⟩
 have hpn:=vK.len;rw[ak,bT]at fu uv;have hpl:Plain sg.a:=((H.cV (i:=1) rfl (λ_=>rfl) ai).fF (g:=λh:Nat×Sl=>iv (h.1:Int)) (g':=λh:Nat×Sl=>h.2.v) (λ_=>rfl) (i:=hP.length) ah).1;have eI:(((sg.len:Nat):Int)-1).toNat=hP.length:=aa;have gl:(hP++[(x,dl)])[hP.length]'(by simp)=(x,dl):=ah;have AZ:=H.dW (i:=2) rfl (λ_=>rfl) ai;have hx:x<65536:=(hok (x,d) ah).1;refine wk ?_;refine dV 4 [] [0,1,2,3,4,5,6,7,8,9,10,11] H ?_;intro w H;refine wk ?_;rw[eI];obtain⟨_,u1,u2⟩:=(H.cV (i:=1) rfl (λ_=>rfl) ai).fF (g:=λh:Nat×Sl=>iv (h.1:Int)) (g':=λh:Nat×Sl=>h.2.v) (λ_=>rfl) (i:=hP.length) ah;rw[gl]at u1 u2;dsimp only at u1 u2;refine⟨_,u1,?_⟩;refine wk ?_;by_cases he:x+d.length=a
 ·refine wk ?_;refine Rel.jO H (i:=2) rfl hc aa ?_;intro sZ w H;simp only[bH,fa]at H;refine wk ?_;refine Rel.Yp (i:=1) H rfl (hP.length*2+1) aa rfl rfl ?_;intro w H;simp only[bH,fa]at H;rw[show((hP++[(x,dl)]).flatMap lx).set (hP.length*2+1) sZ.v=(hP++[(x,sZ)]).flatMap lx from X5 hP x dl sZ]at H;refine wk ?_;refine⟨V,sz',sg,sZ,hP++[(x,sZ)],d++cs,aS _,⟨.inr ⟨P,x,hP,?_,rfl,vK⟩⟩,H⟩;rw[xi,ag he]
 refine wk ?_;refine dV 6 [7,9] [0,1,2,3,4,5,6,7,8,9,10,11,12,13] H ?_;intro w H;refine wk ?_;refine(xz H.data hc aa).use ?_;rintro v w⟨r,rfl,K⟩;replace H:=H.cq K;refine H.wg ?_;intro _ w H;refine Rel.ub (f:=lx) (l:=hP++[(x,dl)]) (x:=(a,r)) rfl (λ_=>rfl) (by simp[Value.oneCell']) H (by show((hP++[(x,dl)]).length+1)*32<=_;rw[ak,bT];omega) (by rw[ak,bT];omega) ?_;intro qG w H;refine H.wg ?_;intro w H;have H0:Rel w0 V0 [.row dl 5 1 (d.flatMap aI),.row sz' 3 1 ((ints (Z++[cs.length])).flatMap bN),.row qG 316 2 ((hP++[(x,dl)]++[(a,r)]).flatMap lx),.row r 5 1 (cs.flatMap aI),.ay bx [qG.v,sz'.v,iv (fl:Int)] 211,.ay b4 c4 t4] V w:=H.pick;obtain⟨V2,hV2,H,hd⟩:=Rel.aJ H0;refine⟨V2,sz',qG,r,hP++[(x,dl)]++[(a,r)],cs,hV2,⟨.inr ⟨P++[(x,d)],a,hP++[(x,dl)],?_,rfl,?_⟩⟩,H⟩
 ·rw[xi,ae he]
 exact(vK.up mX.up hV2).snoc ⟨rfl,hd⟩
def oU(V:ad)(s:Sl)(S:List cv):Prop:=∃hs,aA lx V s hs/\Pw mX V hs S
theorem oU.up{V V':ad}{s:Sl}{S:List cv}(h:oU V s S)(k:Sub V V'):oU V' s S:=by obtain⟨hs,h1,h2⟩:=h;exact⟨hs,h1.up k,h2.up mX.up k⟩
theorem oU.len{V:ad}{s:Sl}{S:List cv}(h:oU V s S):s.len=S.length:=by obtain⟨hs,h1,h2⟩:=h;rw[h1.len,h2.len]
theorem pS.aci(h:pS V S hs dl d)(hne:S≠[])(hok:mT S):d.length<=65536:=by
 rcases h.ex with⟨h1,_⟩|⟨P,a,hP,h1,_,_⟩
 ·exact absurd h1 hne
 have:=hok (a,d) (by rw[h1];simp);dsimp only at this;omega
theorem QG(a:Nat)(c:ab)(S:List cv):na a c S≠[]/\(na a c S).length<=S.length+1:=by
 rcases List.eq_nil_or_concat S with rfl|⟨P,x,rfl⟩
 ·rw[KB];exact⟨ah,ah⟩
 rw[List.concat_eq_append,xi];split
 ·exact⟨ah,ah⟩
 exact⟨ah,ah⟩
structure Z6(W V:ad)(fl:Nat)(o:Option (List cv×au))(v:aj)(w':ad):Prop where
 ex:∃(V':ad) (sg sz:Sl) (c:Int) (k:Bool),Sub V V'/\Rel W V [] V' w'/\v=.tuple #[.agg #[sg.v,sz.v,iv c],.bool k]/\(match o with
  | none=>k=false
  | some (S,Z)=>k=true/\c=fl/\oU V' sg S/\aA bN V' sz (ints Z))
theorem aiC{raw:ab}(h:j0 raw):(raw.take (raw.length-1)).drop 4=jt raw:=by have:=h.2.1;unfold jt;rw[List.drop_take,show raw.length-1-4=b8 raw 0 by omega]
theorem aiV(hV:Sub V W)(hM:vm V){s:Sl}{l:ab}(hs:aF V s l)(hl:l.length<=1000){fl:Nat}(hf:fl<4):aB 166 [s.v,iv (fl:Int)] W (Z6 W V fl (rB fl l)):=by
 have H:=aG hV;have hlen:=hs.len;refine eV Tryz.func166 92 [0,1,4,5,6,7,8,9,10,11,12,13,14,28,37,58,73] ?_;refine H.wn ?_;intro w b4 H;refine H.wn ?_;intro w b6 H;refine H.wg ?_;intro w H;refine⟨iu _▸(hs.up H.data).cells,?_⟩;refine wk ?_;replace H:=H.br 5 1;replace H:=H.br 316 2;replace H:=H.br 3 1
 refine aP (S:=ab×List cv×au×List (Nat×Sl)×Sl×Sl×Sl×ab) al [0,1,4,6] (λq=>[(7,str q.1)]) (λq w'=>∃V3,Sub V V3/\pS V3 q.2.1 q.2.2.2.1 q.2.2.2.2.2.2.1 q.2.2.2.2.2.2.2/\mT q.2.1/\rB fl l=wN fl q.2.1 q.2.2.1 q.1/\q.2.2.1.length+q.1.length<=l.length/\q.2.1.length<=q.2.2.1.length/\q.2.2.2.2.2.2.2.length<=65536 /\
  Rel W V [.row q.2.2.2.2.1 3 1 ((ints q.2.2.1).flatMap bN),.row q.2.2.2.2.2.1 316 2 (q.2.2.2.1.flatMap lx),.row q.2.2.2.2.2.2.1 5 1 (q.2.2.2.2.2.2.2.flatMap aI),.ay b6 [q.2.2.2.2.2.1.v,q.2.2.2.2.1.v,iv (fl:Int)] 211,.ay b4 [.slice none 0 0,.slice none 0 0,iv 0] 211] V3 w') (λq _=>q.1.length) (l,[],[],[],⟨none,0,0⟩,⟨none,0,0⟩,⟨none,0,0⟩,[]) ?_
 conv=>whnf
 refine⟨sB,⟨V,aS _,⟨.inl ⟨rfl,rfl⟩⟩,by intro s hs;simp at hs,rfl,ah,ah,ah,H⟩,?_⟩;clear H;rintro⟨rest,S,Z,gs,sz,sg,dl,d⟩w⟨V3,aw,hS,hok,hrd,hZr,hSZ,hdl,H⟩;dsimp only at hS hok hrd hZr hSZ hdl H |-;refine wk (H.us (acL H.data hf) ?_);intro w H;refine wk ?_;refine H.us (ab1 H.data (hM.up aw) rest (cW fl) aa) ?_;intro w H;have rC:=Lib.index_ge rest (cW fl);by_cases hi:Lib.index rest (cW fl) = -1
 ·have e:Lib.cut rest (cW fl)=(rest,[],false):=by unfold Lib.cut;rw[ae aa]
  rw[e];dsimp only;rw[hrd,(XD (aiH hi))];refine H.wg ?_;intro w H;exact⟨V3,⟨none,0,0⟩,⟨none,0,0⟩,0,false,aw,H.sx,rfl,rfl⟩
 obtain⟨i,hi⟩:∃i:Nat,Lib.index rest (cW fl)=i:=⟨(Lib.index rest (cW fl)).toNat,aa⟩
 obtain⟨Uy,dK⟩:=U4 hi;have e:Lib.cut rest (cW fl)=(rest.take i,rest.drop (i+(cW fl).length),true):=by unfold Lib.cut;rw[ag aa,hi];rfl
 rw[e];dsimp only;have hcut:=aiG hi Uy;obtain⟨nx,ke⟩:∃nx,nx=rest.drop (i+(cW fl).length):=⟨_,rfl⟩
 have hnl:nx.length+1<=rest.length:=by
  have h1:1<=(cW fl).length:=by unfold cW;split<;>simp
  rcases Lib.occAt_room Uy with h|h
  ·rw[ke,aU];omega
  rw[h]at h1;simp at h1
 rw[<-ke]at hcut |-;refine wk ?_;refine(aiQ H.data hf (rest.take i) (by rw[bg];omega)).use ?_;rintro v w⟨V4,rb,ar,K,rfl,vY⟩;replace H:=H.bd K;have gA:=aw.trans ar;cases bI:pG (cQ fl) (rest.take i)with
 | none =>rw[bI]at hcut;rw[hrd,(XD hcut)];refine H.wg ?_;intro w H;exact⟨V4,⟨none,0,0⟩,⟨none,0,0⟩,0,false,gA,H.sx,rfl,rfl⟩
 | some raw =>
 rw[bI]at hcut;have iX:=vY raw bI;obtain⟨_,Ec⟩:=Jv.1 bI;have hrl:=iX.len;have cP:=iX.cap;have⟨r5,r6,_⟩:=Ec;obtain⟨p0,c1⟩:=iX.aR (g:=bv) (λ_=>rfl) (i:=1) aa;obtain⟨_,c2⟩:=iX.aR (g:=bv) (λ_=>rfl) (i:=2) aa;obtain⟨_,c3⟩:=iX.aR (g:=bv) (λ_=>rfl) (i:=3) aa;have hb1:b8 raw 1=(raw[1]'aa).toNat:=by simp[b8,show 1<raw.length by omega]
 have hb2:b8 raw 2=(raw[2]'aa).toNat:=by simp[b8,show 2<raw.length by omega]
 have hb3:b8 raw 3=(raw[3]'aa).toNat:=by simp[b8,show 3<raw.length by omega]
 have hat:fB raw=256*(raw[1]'aa).toNat+(raw[2]'aa).toNat:=by unfold fB;rw[hb1,hb2]
 have uH:=iX.sub (n:=1) (λ_=>rfl) (a:=4) (b:=raw.length-1) aa aa;rw[aiC Ec]at uH;have hcl:=O3 Ec;have mG:b8 raw 0<=255:=Nat.le_of_lt_succ (raw[0]?.getD 0).toNat_lt;generalize raw[1]=x1 at c1 hat;generalize raw[2]=x2 at c2 hat;generalize raw[3]=x3 at c3 hb3;have l1:=x1.toNat_lt;have l2:=x2.toNat_lt;have l3:=x3.toNat_lt;have lK:=yU l1 l2;rw[<-hat]at lK;have aeG:fB raw<65536:=aa;refine wk ?_;refine dV 10 [] [0,1,2,3,4,5,6,7,8,9,10,11,12,13,14,15,16,17,18,19,20] H ?_;intro w H;refine wk ?_;rw[sJ];refine wk ?_;rw[lK];by_cases hk:b8 raw 3=1
 ·have hend:=aiO (S:=S) (Z:=Z) hcut hk;have Em:x3.toNat=1:=by rw[<-hb3];exact hk
  obtain⟨V5,aN,H,hz⟩:=Rel.aJ H;obtain⟨V6,bC,H,hg⟩:=Rel.aJ H;obtain⟨V7,fH,H,hd⟩:=Rel.aJ H;have AQ:=(gA.trans aN).trans (bC.trans fH);have hseg:oU V7 sg S:=⟨gs,hg.up fH,(((hS.up ar).up aN).up (bC.trans fH)).all hd⟩
  rw[hrd,hend];by_cases c0:b8 raw 0=0;rotate_left
  ·rw[ae (λq=>c0 q.1)];refine H.wg ?_;intro w H;exact⟨V7,sg,sz,fl,false,AQ,H.sx,rfl,rfl⟩
  by_cases c1:fB raw=0;rotate_left
  ·rw[ae (λq=>c1 q.2.1)];refine H.wg ?_;intro w H;exact⟨V7,sg,sz,fl,false,AQ,H.sx,rfl,rfl⟩
  by_cases c2:nx=[]
  ·rw[ag ⟨c0,c1,c2⟩];refine H.wg ?_;intro w H;exact⟨V7,sg,sz,fl,true,AQ,H.sx,by rw[bw c2],rfl,rfl,hseg,(hz.up bC).up fH⟩
  rw[ae (λq=>c2 q.2.2)];refine H.wg ?_;intro w H;exact⟨V7,sg,sz,fl,false,AQ,H.sx,by rw[bA c2],rfl⟩
 have s9:=aiN (S:=S) (Z:=Z) hcut hk;have Em:x3.toNat≠1:=by rw[<-hb3];exact hk
 by_cases d1:b8 raw 3=0;rotate_left
 ·have aeT:x3.toNat≠0:=by rw[<-hb3];exact d1
  rw[ae (λq=>d1 q.1)]at s9;rw[hrd,s9];refine H.wg ?_;intro w H;exact⟨V4,⟨none,0,0⟩,⟨none,0,0⟩,0,false,gA,H.sx,rfl,rfl⟩
 have aeT:x3.toNat=0:=by rw[<-hb3];exact d1
 by_cases d2:b8 raw 0=0
 ·rw[ae (λq=>q.2.1 d2)]at s9;rw[hrd,s9];refine H.wg ?_;intro w H;exact⟨V4,⟨none,0,0⟩,⟨none,0,0⟩,0,false,gA,H.sx,rfl,rfl⟩
 by_cases d3:fB raw+b8 raw 0<=65536;rotate_left
 ·rw[ae (λq=>d3 q.2.2)]at s9;rw[hrd,s9];refine H.wg ?_;intro w H;exact⟨V4,⟨none,0,0⟩,⟨none,0,0⟩,0,false,gA,H.sx,rfl,rfl⟩
 rw[ag ⟨d1,d2,d3⟩]at s9;have uy:jt raw≠[]:=by intro q;rw[q]at hcl;simp at hcl;omega
 refine wk ?_;rw[show(((rb.len:Nat):Int)-1).toNat=raw.length-1 by omega];refine(aaB (a:=fB raw) H (hS.up ar) aa aa aa uH aa aa hok).use ?_;clear H;rintro v w⟨V5,sz',qG,sZ,gs',d',aN,TH,H⟩;rw[hcl]at H;have A9:=Pt (a:=fB raw) hok uy aa;obtain⟨n1,n2⟩:=QG (fB raw) (jt raw) S;refine wk ?_;exact⟨sB,(nx,na (fB raw) (jt raw) S,Z++[b8 raw 0],gs',sz',qG,sZ,d'),sB,⟨V5,gA.trans aN,TH,A9,by dsimp only;rw[hrd,s9],by dsimp only;rw[ak,bT];omega,by dsimp only;rw[ak,bT];omega,TH.aci n1 A9,H⟩,by dsimp only;omega⟩
def aT.v8(B:Nat):aT->Bool
 | .obj b o=>decide (b<B)&&Br o
 | _=>true
abbrev qZ(D:Nat):aT:=.obj D (.deferred (some []))
abbrev KV(D:Nat):Deferred:={ target:=.collected D,args:=#[] }
theorem Sq{Ds:au}(h:∀D∈Ds,D<B):(Ds.map qZ).all (aT.v8 B)=true:=by rw[List.all_map,bc];intro D hD;show(decide (D<B)&&Br _)=true;rw[bw (h D hD)];rfl
section
variable{w0 V0 V w:ad}{own:cx}
theorem Rel.P2(H:Rel w0 V0 own V w)(hc:own.all (aT.v8 B)=true)(hB:w0.heap.size<=B){w':ad}(ht:Tw B w w'):Rel w0 V0 own V w':=by
 refine⟨⟨ht.os.trans H.base.os,ht.tape.trans H.base.tape,ht.output.trans H.base.output,qu H.base.size ht.size,λk hk=>(ht.low k aa).trans (H.base.block k hk)⟩,H.sub,H.old,λr hr=>?_,H.new,H.hid,H.apart,⟨λb c t f hb=>ht.cS _ _ _ _ (H.data.cS b c t f hb)⟩⟩;have h1:=H.laid r hr;have h2:=bc.1 hc r hr;cases r with
 | ay b l t=>exact dN.tw h1 ht
 | row s e sz xs=>exact Row.YZ h1 ht
 | obj b o =>simp only[aT.v8,eD,eQ]at h2;exact(ht.low b h2.1).trans h1
theorem Rel.agc(H:Rel w0 V0 own V w){B:Nat}(hc:own.all (aT.v8 B)=true)(hB:w0.heap.size<=B):∃X:cx,Rel w0 V0 (own++X) V w/\∀w',(∀r∈X,r.laid w')->nT B w w':=by
 refine⟨(bZ w.heap.size).filterMap (Bm w B),⟨H.base,H.sub,H.old,?_,?_,?_,?_,H.data⟩,?_⟩
 ·intro r hr;rcases cc.1 hr with hr|hr
  ·exact H.laid r hr
  obtain⟨j,_,hj⟩:=tE.1 hr;obtain⟨o,ho,_,_,rfl⟩:=qm hj;exact ho
 ·intro r hr b hb;rcases cc.1 hr with hr|hr
  ·exact H.new r hr b hb
  obtain⟨j,_,hj⟩:=tE.1 hr;obtain⟨o,ho,Dl,_,rfl⟩:=qm hj;cases hb;omega
 ·intro r hr b hb;rcases cc.1 hr with hr|hr
  ·exact H.hid r hr b hb
  obtain⟨j,_,hj⟩:=tE.1 hr;obtain⟨o,ho,Dl,hn,rfl⟩:=qm hj;cases hb;intro c t f hv;have:=H.data.cS _ _ _ _ hv;rw[ho]at this;cases this;cases hn
 ·refine BN.2 ⟨H.apart,?_,λr hr s hs b hb jD=>?_⟩
  ·rw[List.pairwise_filterMap];refine List.Pairwise.imp ?_ List.nodup_range;intro i j yi r hr s hs b hb jD;obtain⟨o,ho,_,_,rfl⟩:=qm hr;obtain⟨o',mK,_,_,rfl⟩:=qm hs;cases hb;cases jD;exact yi rfl
  obtain⟨j,_,hj⟩:=tE.1 hs;obtain⟨o,ho,Dl,hn,rfl⟩:=qm hj;cases jD;have mH:=bc.1 hc r hr;have hl:=H.laid r hr;cases r with
  | obj b' o' =>simp only[aT.v8,eD,eQ]at mH;cases hb;omega
  | ay b' l t =>obtain⟨c,t,f,hcell⟩:=aT.cell_of rfl hl hb;rw[ho]at hcell;cases hcell;cases hn
  | row s e sz xs =>obtain⟨c,t,f,hcell⟩:=aT.cell_of rfl hl hb;rw[ho]at hcell;cases hcell;cases hn
 intro w' hX j o hj ho hn;have hlt:=(ku.1 ho).1;have hno:Br o=true:=by
  cases o with
  | cells c t f=>exact absurd rfl (hn c t f)
  | _=>rfl
 exact hX (.obj j o) (tE.2 ⟨j,List.mem_range.2 hlt,by simp[Bm,ho,hj,hno]⟩)
theorem Rel.VD{k:ad->Prop}(hc:own.all aT.wa=true):∀ {Ds:au} {w:ad},Ds.Pairwise (λa b=>b<a)->Rel w0 V0 (own++Ds.map qZ) V w->(∀w',Rel w0 V0 own V w'->k w')->uP (Ds.map KV) w k
 | [],w,_,H,hk=>hk w (by simpa using H)
 | D::Ds,w,hp,H,hk=>by
  obtain⟨h1,h2⟩:=qv.1 hp;have hm:aT.obj D (.deferred (some []))∈own++(D::Ds).map qZ:=ah;refine⟨H.laid _ hm,λw' ht=>Rel.VD hc h2 (Rel.P2 (B:=D) (H.sl (own':=own++Ds.map qZ) ?_) ?_ (H.new _ hm D rfl) ht) hk⟩
  ·exact(List.Sublist.refl own).append (List.sublist_cons_self _ _)
  rw[List.all_append,Sq h1,OO,bc];intro r hr;have:=bc.1 hc r hr;cases r with
  | obj b o=>cases this
  | _=>rfl
end
theorem afI(hT:cg C.P C.T){c:Code}{env:Env}{ds:List Deferred}{w:ad}{Q:iJ}{S:Type}(ks:au)(vars:S->Env)(D:S->List Deferred)
  (I:S->ad->Prop) (μ:S->ad->Nat) (s0:S) (hd0:ds=D s0)
  (h:mO env ks λkm=>qI env (vars s0)/\I s0 w/\∀s w,I s w->jh C c (vars s++km) (D s) w λe aO ds' w'=>(match e with
   | .normal=>qI aO km/\∃s',ds'=D s'/\qI aO (vars s')/\I s' w'/\μ s' w'<μ s w
   | e=>Q e aO ds' w')):aM C (.loop c) env ds w Q:=by
 obtain⟨km,hk,h0,hI,hr⟩:=tz h;have app:∀ {e1 e2:Env} {t:Nat} {v:aj},get? (e1++e2) t=some v->get? e1 t=some v\/get? e2 t=some v:=by
  intro e1 e2 t v h;induction e1 with
  | nil=>exact .inr h
  | cons p r ih =>
   obtain⟨s,u⟩:=p;simp only[bb,get?]at h |-;cases e:Nat.beq s t with
   | true=>simp only[e]at h |-;exact .inl h
   | false=>simp only[e]at h |-;exact ih h
 refine⟨λa hs hn hd=>?_⟩
 refine ZN (λs a w=>a.tmps.size=C.n/\a.defers=D s/\Sat (vars s++km) a.tmps/\I s w) μ s0
  ⟨hn,hd.trans hd0,λt v h=>(app h).elim (λh=>hs t v (tM h0 t v h)) (λh=>hs t v (hk t v h)),hI⟩ ?_
 rintro s a w⟨hn,hd,hs,hI⟩;refine wpIn_mono ((tT hT (hr s w hI)).out a hs hn hd) λe a' w' ⟨h1,aO,h2,h3⟩=>?_;cases e with
 | normal =>obtain⟨h8,s',h4,h5,h6,h7⟩:=h3;exact⟨s',⟨h1,h4,λt v h=>(app h).elim (λh=>h2 t v (tM h5 t v h)) (λh=>h2 t v (tM h8 t v h)),h6⟩,h7⟩
 | _=>exact⟨h1,aO,h2,h3⟩
theorem aiD(hT:cg C.P C.T)(hro:C.r=none){g:Operand}{ps:Array Tmp}{assign body:Code}{env:Env}{ds:List Deferred}{w:ad}{Q:iJ}{gf:Nat}{lb:aC}{w0 V0 V:ad}
  (hg:dj env g λv=>v=.func (.func gf) #[] lb.toArray) {xs:List aC} (hit:Gj C.P gf lb xs (λW=>Sub V W)) (hps:∀x∈xs,x.length=ps.size) (hpn:(ps.toList.all λp=>decide (p<C.n))=true)
  {σ:Type} (own:Nat->σ->cx) (hcell:∀k s,(own k s).all (aT.v8 w.heap.size)=true) (F:Nat->σ->ad->Prop)
  (s0:σ) {V1:ad} (hV1:Sub V V1) (H:Rel w0 V0 (own 0 s0) V1 w) (hF:F 0 s0 V1)
  (yy:∀L k x W s V1,xs[k]?=some x->Sub V V1->F k s V1->Rel w0 V0 (own k s) V1 W->jh { C with r:=some L } assign (BI ps.toList x env) [] W λe Az ds1 W1=>(match e with
   | .normal=>ds1=[]/\nT w.heap.size W W1/\∀W2,Tw w.heap.size W1 W2->jh { C with r:=some L } body Az [] W2 (Pd w.heap.size W2 (λW=>∃V1 s,Sub V V1/\F (k+1) s V1/\Rel w0 V0 (own (k+1) s) V1 W) (λ_ _=>False))
   | _=>False))
  (hdone:∀D W s V1,w.heap.size<=D->Sub V V1->F xs.length s V1->Rel w0 V0 (own xs.length s++[qZ D]) V1 W->Q .normal env (KV D::ds) W) :
  aM C (.rangeFunc g ps assign body) env ds w Q:=by
 have hB:w0.heap.size<=w.heap.size:=H.base.size;refine Xu hT hro hg hit hps hpn (λk W=>∃V1 s,Sub V V1/\F k s V1/\Rel w0 V0 (own k s) V1 W) (λ_ _=>False) ?_ ?_ ?_ ⟨V1,s0,hV1,hF,H⟩ ?_ ?_ ?_
 ·rintro k W W'⟨V1,s,h1,h2,h3⟩ht;exact⟨V1,s,h1,h2,h3.P2 (hcell k s) hB ht⟩
 ·intro c W W' h _;exact h
 ·rintro k W⟨V1,s,h1,h2,h3⟩;exact h1.trans h3.data
 ·rintro L k x W hx⟨V1,s,h1,h2,h3⟩;exact yy L k x W s V1 hx h1 h2 h3
 ·rintro D W hD hW⟨V1,s,h1,h2,H⟩;refine hdone D W s V1 hD h1 h2 ⟨H.base,H.sub,H.old,?_,?_,?_,?_,H.data⟩
  ·intro r hr;rcases cc.1 hr with hr|hr
   ·exact H.laid r hr
   rw[cz.1 hr];exact hW
  ·intro r hr b hb;rcases cc.1 hr with hr|hr
   ·exact H.new r hr b hb
   rw[cz.1 hr]at hb;cases hb;omega
  ·intro r hr b hb;rcases cc.1 hr with hr|hr
   ·exact H.hid r hr b hb
   rw[cz.1 hr]at hb;cases hb;intro c t f hv;have:=H.data.cS _ _ _ _ hv;rw[hW]at this;cases this
  refine BN.2 ⟨H.apart,List.pairwise_singleton _ _,λr hr s hs b hb jD=>?_⟩;rw[cz.1 hs]at jD;cases jD;have mH:=bc.1 (hcell _ _) r hr;have hl:=H.laid r hr;cases r with
  | obj b' o' =>simp only[aT.v8,eD,eQ]at mH;cases hb;omega
  | ay b' l t =>obtain⟨c,t,f,hcell⟩:=aT.cell_of rfl hl hb;rw[hW]at hcell;cases hcell
  | row s e sz xs =>obtain⟨c,t,f,hcell⟩:=aT.cell_of rfl hl hb;rw[hW]at hcell;cases hcell
 rintro D c W hD hW h;exact h.elim
theorem Qd(L:Nat):∀i,i<(ir L).length↔i*16<L:=by
 induction L using Nat.strongRecOn with
 | ind L ih =>
  intro i;by_cases h0:L=0
  ·subst h0;rw[alZ];simp
  by_cases h16:L<=16
  ·rw[Qf h0 h16];simp only[bT];omega
  rw[Qc aa,aq];cases i with
  | zero=>simp;omega
  | succ i =>have:=ih (L-16) aa i;omega
theorem alY{L:Nat}:∀ {k:Nat},k*16<L->(ir L)[k]?=some (min 16 (L-k*16)):=by
 induction L using Nat.strongRecOn with
 | ind L ih =>
  intro k hk;by_cases h16:L<=16
  ·obtain rfl:k=0:=aa;rw[Qf aa h16];simp only[Ja];congr 1;omega
  rw[Qc aa];cases k with
  | zero=>simp only[Ja];congr 1;omega
  | succ k =>rw[List.getElem?_cons_succ,ih (L-16) aa aa];congr 1;omega
theorem Qe(L:Nat):(ir L).length<=L:=by
 by_cases h0:(ir L).length=0
 ·omega
 have:=(Qd L ((ir L).length-1)).1 aa;omega
theorem Zl{k:Nat}(h:k<S.length):gv (S.take (k+1))=gv (S.take k)++ir S[k].2.length:=by unfold gv;rw[bK h,cw];simp
theorem Qg:∀ {S:List cv},(∀x∈S,x.2.length<=65536)->(gv S).length<=S.length*65536
 | [],_=>by simp[gv]
 | x::S,h=>by
  have:=Qg (S:=S) λy hy=>h y (by simp[hy]);have h1:=h x ah;have h2:=Qe x.2.length;have e:gv (x::S)=ir x.2.length++gv S:=by simp[gv]
  rw[e,ak,aq,Nat.succ_mul];omega
theorem ahD(hV:Sub V W){s:Sl}{S:List cv}(hs:oU V s S)(hl:S.length<=1000)(hd:∀x∈S,x.2.length<=65536):aB 259 [s.v] W λv w'=>∃(V':ad) (r:Sl),Sub V V'/\Rel W V [] V' w'/\v=r.v/\aA bN V' r (ints (gv S)):=by
 have H:=aG hV;have fu:=hs.len;obtain⟨gs,hgs,hpw⟩:=hs;have rD:=hpw.len;refine eV Tryz.func259 24 [0,2,3,5,6,7,8,9,10,15,16] ?_;refine H.wn ?_;intro w b3 H;refine wk ?_;replace H:=H.br 3 1;refine afI (S:=Nat×Sl×au) al [0,2,3,7,8,16] (λq=>[(9,iv q.1)]) (λq=>q.2.2.map KV) (λq w'=>q.1<=S.length/\q.2.2.Pairwise (λa b=>b<a)/\∃V3,Sub V V3/\Rel W V (.row q.2.1 3 1 ((ints (gv (S.take q.1))).flatMap bN)::.ay b3 [q.2.1.v] 50::q.2.2.map qZ) V3 w') (λq _=>S.length-q.1) (0,⟨none,0,0⟩,[]) rfl ?_;conv=>whnf
 refine⟨sB,⟨aa,List.Pairwise.nil,V,aS _,H⟩,?_⟩;clear H;rintro⟨kk,r0,Ds⟩w⟨nt,Ma,V3,aw,H⟩;dsimp only at nt Ma H |-;by_cases hlt:kk<S.length
 ·obtain⟨p0,c0,c1⟩:=(hgs.up aw).fF (g:=λh:Nat×Sl=>iv (h.1:Int)) (g':=λh:Nat×Sl=>h.2.v) (λ_=>rfl) (i:=kk) aa;have hR:=hpw.all kk _ _ (bz aa) (bz hlt);obtain⟨x,hx⟩:∃x,x=gs[kk]'aa:=⟨_,rfl⟩
  obtain⟨y,hy⟩:∃y,y=S[kk]:=⟨_,rfl⟩
  rw[<-hx,<-hy]at hR;rw[<-hx]at c0 c1;have hyl:=hd y (by rw[hy];exact bS hlt);have Np:=Qg (S:=S.take kk) λz hz=>hd z (List.mem_of_mem_take hz);rw[bg]at Np;have ff:=Zl hlt;rw[<-hy]at ff;obtain⟨xa,xs⟩:=x;obtain⟨_,hby⟩:=hR;dsimp only at hby c0 c1;have hbl:=hby.len;refine H.wn ?_;intro w b5 H;refine H.wg ?_;intro w H;refine(KU H.data xs (n:=16) ai).use ?_;rintro v w⟨b,c,rfl,V4,ar,K,hb,hc⟩;replace H:=H.bd K;refine wk ?_;have Tq:∀D∈Ds,D<w.heap.size:=λD hD=>(ku.1 (H.laid (qZ D) (by simp[hD]))).1;have hB0:=H.base.size;have hcell:∀(b':Nat) (l':aC) (t':TypeId) (r':Sl) (e' n':Nat) (c':aC) (b2:Nat) (l2:aC) (t2:TypeId),(aT.ay b' l' t'::aT.row r' e' n' c'::aT.ay b2 l2 t2::Ds.map qZ).all (aT.v8 w.heap.size)=true:=λ_ _ _ _ _ _ _ _ _ _=>by simp only[List.all_cons,Sq Tq];rfl
  have gA:=aw.trans ar
  refine aiD al rfl (by(conv=>whnf)) (KT (m:=(ir y.2.length).length) hb hc (hby.up gA) aa aa aa (Qd y.2.length)) ?_ rfl (σ:=Sl)
   (λk r=>.ay b5 [iv (xa:Int),xs.v] 316::.row r 3 1 ((ints (gv (S.take kk)++(ir y.2.length).take k)).flatMap bN)::.ay b3 [r.v] 50::Ds.map qZ) (λ_ _=>hcell _ _ _ _ _ _ _ _ _ _)
   (λ_ _ _=>True) r0 (aS _) (by rw[List.take_zero,aZ];exact H) trivial ?_ ?_
  ·intro z hz;obtain⟨i,_,rfl⟩:=cJ.1 hz;rfl
  ·clear H;rintro L k z w r V5 hz aN _ H;have hk:k<(ir y.2.length).length:=by have:=(List.getElem?_eq_some_iff.1 hz).1;rwa [xy]at this
   rw[GN hk]at hz;cases hz;have aem:=(Qd y.2.length k).1 hk;have UP:=alY aem;have qk:=Qe y.2.length;conv=>whnf
   refine⟨rfl,nT.refl _ _,λw' kh=>?_⟩;obtain⟨X,H,hX⟩:=(H.P2 (hcell _ _ _ _ _ _ _ _ _ _) hB0 kh).agc (hcell _ _ _ _ _ _ _ _ _ _) hB0;simp only[bb]at H;clear kh;generalize w'=w at H hX |-;refine H.wg ?_;intro _ w H;have hks:(ir y.2.length).take (k+1)=(ir y.2.length).take k++[(j5 xs 16 k).len]:=by
    rw[bK hk];rw[bz hk]at UP;rw[Option.some.inj UP];show _=_++[min 16 (xs.len-k*16)]
    rw[hbl]
   refine Rel.eH (f:=bN) (l:=ints (gv (S.take kk)++(ir y.2.length).take k)) (x:=(((j5 xs 16 k).len:Nat):Int)) rfl (λ_=>rfl) (by simp[Value.oneCell']) H (by show((ints (gv (S.take kk)++(ir y.2.length).take k)).length+1)*8<=_;simp only[aW,ak,bg];omega) (by simp only[aW,ak,bg];omega) ?_;intro r1 w H;refine H.wg ?_;intro w H;refine⟨hX _ (λr hr=>H.laid r (by simp[hr])),V5,r1,aN,trivial,?_⟩;rw[hks,<-bj,show ints (gv (S.take kk)++(ir y.2.length).take k++[(j5 xs 16 k).len])=ints (gv (S.take kk)++(ir y.2.length).take k)++[(((j5 xs 16 k).len:Nat):Int)]by simp];exact H.sl (.cons_cons _ (.cons_cons _ (.cons_cons _ (List.sublist_append_left _ _))))
  clear H;rintro D w r V5 hD aN _ H;rw[xy,fA]at H;rw[<-ff]at H;refine wk ?_;have H1:=(H.sl (List.Sublist.cons _ (List.Sublist.refl _))).perm (List.Perm.cons _ (List.Perm.cons _ (List.perm_append_singleton (qZ D) (Ds.map qZ))));exact⟨sB,(kk+1,r,D::Ds),rfl,sB,⟨by dsimp only;omega,qv.2 ⟨λD' hD'=>by have:=Tq D' hD';omega,Ma⟩,V5,gA.trans aN,H1⟩,by dsimp only;omega⟩
 obtain rfl:kk=S.length:=aa;rw[fA]at H;obtain⟨V4,ar,H,hr⟩:=Rel.aJ H;refine wk ?_;refine Rel.VD (own:=[.ay b3 [r0.v] 50]) rfl Ma H λw' H=>?_;refine wk ?_;exact⟨V4,r0,aw.trans ar,H.sx,rfl,hr⟩
theorem FF(hV:Sub V W){s:Sl}{l:List Int}(hs:aA bN V s l){g:FuncId}{cap:aC}{enc:Int->ab}(hone:∀x∈l,vn V g cap (iv x) (enc x))(hll:l.length<=1099511627776)(hb:(cm enc l).length<=1099511627776) :
  aB 235 [s.v,.func (.func g) #[] cap.toArray] W λv w'=>∃r:Sl,v=r.v/\Rel W V [.row r 5 1 ((cm enc l).flatMap aI)] V w':=by
 have H:=aG hV;have hlen:=hs.len;rw[cm,ak]at hb;refine eV Tryz.func235 24 [0,1,4,5,7,11,12,13,14] ?_;refine wk ?_;rw[hlen];refine(jW (n:=l.length) H.data (by constructor<;>omega)).use ?_;rintro v w⟨r0,rfl,K⟩;replace H:=H.call K;refine wk ?_;refine aP (S:=Nat×Sl) al [0,1,4,11,12] (λk=>[(5,k.2.v),(13,iv k.1)]) (λk w'=>k.1<=l.length/\∃V1,Sub V V1/\Rel W V [.row k.2 5 1 ((az l.length++(l.take k.1).flatMap enc).flatMap aI)] V1 w') (λk _=>l.length-k.1) (0,r0) ?_;conv=>whnf
 refine⟨sB,⟨aa,V,aS _,by simpa using H⟩,?_⟩;clear H;rintro⟨k,r⟩w⟨hk,V1,hV1,H⟩;dsimp only at hk H;by_cases hlt:k<l.length;rotate_left
 ·refine wk ?_;rw[bJ aa]at H;exact⟨r,rfl,H.back⟩
 have hbl:=vD (enc:=enc) hlt;obtain⟨hp,hq⟩:=(hs.up hV1).aR (g:=iv) (λ_=>rfl) hlt;refine wk ((hone l[k] (bS hlt) V1 w hV1 H.data).use ?_);rintro v w⟨V2,x,hV2,rfl,hx,K⟩;replace H:=H.call K;simp only[aL]at H;refine wk ?_;refine Rel.jO H (i:=0) rfl hx (by simp only[ak];omega) ?_;intro rn w H;rw[Hi hlt]at H;refine wk ?_;exact⟨sB,(k+1,rn),sB,⟨aa,V2,hV1.trans hV2,H.sx⟩,aa⟩
theorem ER(z:Int)(hz:cY z):vn V 196 [] (iv z) (az z):=IH λ_ _ hV _=>jW hV hz
theorem acP(hV:Sub V W){x y:Sl}{a b:List Int}(hx:aA bN V x a)(hy:aA bN V y b)(ha:a.length<=1099511627776):aB 258 [x.v,y.v] W λv w'=>v=.bool (decide (a=b))/\Rel W V [] V w':=by
 have H:=aG hV;have h1:=hx.len;have h2:=hy.len;refine eV Tryz.func258 26 [0,1,4,5,10,12,13,14,24] ?_;by_cases hl:a.length=b.length;rotate_left
 ·refine wk ?_;rw[bA (λh=>hl (by rw[h]))];exact⟨rfl,H⟩
 refine wk ?_;refine aP (S:=Nat) al [0,1,10,12] (λk=>[(13,iv k)]) (λk w'=>k<=a.length/\a.take k=b.take k/\Rel W V [] V w') (λk _=>a.length-k) 0 ?_;conv=>whnf
 refine⟨sB,⟨aa,rfl,H⟩,?_⟩;clear H;rintro k w⟨hk,hz,H⟩;by_cases qg:k<a.length;rotate_left
 ·rw[bJ aa,bJ aa]at hz;refine wk ?_;rw[bw hz];exact⟨rfl,H⟩
 have vQ:k<b.length:=aa;obtain⟨hp,hc⟩:=hx.aR (g:=iv) (λ_=>rfl) qg;obtain⟨vU,hc'⟩:=hy.aR (g:=iv) (λ_=>rfl) vQ;have ta:=bK qg;have tb:=bK vQ;by_cases he:a[k]=b[k]
 ·rw[he]at hc ta;refine wk ?_;refine dV 6 [] [0,1,2,3,4,5,6,7,8] H ?_;intro w H;refine wk ?_;exact⟨sB,k+1,sB,⟨aa,by rw[ta,tb,hz],H.sx⟩,aa⟩
 have hne:a≠b:=λh=>he (by subst h;rfl);generalize a[k]=u at hc he;generalize b[k]=v at hc' he;refine wk ?_;refine dV 6 [] [0,1,2,3,4,5,6,7,8] H ?_;intro w H;refine wk ?_;rw[bA hne];exact⟨rfl,H.sx⟩
theorem Ij{a b:au}:ints a=ints b↔a=b:=by
 constructor
 ·intro h;have:=ax (List.map Int.toNat) h;rwa [NF,NF]at this
 intro h;rw[h]
theorem ajc(hV:Sub V W){fl:Nat}(hf:fl<4){sg sz:Sl}{S:List cv}{Z:au}(hs:oU V sg S)(hz:aA bN V sz (ints Z))(uv:S.length<=1000)(od:Z.length<=1000)(hZ:∀n∈Z,n<=255)(hd:∀x∈S,x.2.length<=65536) :
  aB 168 [.agg [sg.v,sz.v,iv (fl:Int)].toArray] W λv w'=>∃(V':ad) (r:Sl),Sub V V'/\Rel W V [] V' w'/\v=r.v/\aF V' r (iD fl (jd S Z)):=by
 have H:=aG hV;have tn:=hz.len;rw[aW]at tn;refine eV Tryz.func168 25 [0,1,2,3,10,18] ?_;refine H.wn ?_;intro w b1 H;refine wk ((ahD H.data hs uv hd).use ?_);rintro v w⟨V2,r,hV2,K,rfl,hr⟩;replace H:=H.bd K;refine wk ?_;refine H.us (acP H.data (hz.up hV2) hr (by rw[aW];omega)) ?_;intro w H;by_cases he:Z=gv S
 ·rw[bw (Ij.2 he)];have e:jd S Z=[]:=by unfold jd;rw[ag he]
  rw[e];refine wk ?_;by_cases h1:fl=0
  ·have e:iD fl []=[]:=by unfold iD;rw[ag ⟨h1,rfl⟩]
   rw[e];refine wk ?_;exact⟨V2,⟨none,0,0⟩,hV2,H.sx,rfl,aA.nil _ _⟩
  have e:iD fl []=az fl++cm az (ints []):=by unfold iD;rw[ae λq=>h1 q.1]
  rw[e];have hpl:=I4 (Z:=[]) ah ah;have hpn:=dq (n:=(fl:Int)) aa aa;refine wk ?_;refine(jW (n:=(fl:Int)) H.data (by constructor<;>omega)).use ?_;rintro v w⟨r1,rfl,K⟩;replace H:=H.cq K;refine wk ?_;refine(FF (l:=ints ([]:au)) (enc:=az) H.data (aA.nil _ _) (λz hz=>ER z ?_) (by first|(simp only[aW];have:=(show([]:au).length<=1000 by simp);omega)|simp) aa).use ?_
  ·obtain⟨n,hn,rfl⟩:=cJ.1 hz;have:=(λ(n:Nat) (hn:n∈([]:au))=>(by simp at hn:n<=255)) n hn;constructor<;>omega
  rintro v w⟨r2,rfl,K⟩;replace H:=H.cq K;refine wk ?_;refine Rel.eB H (i:=0) rfl aa ?_;intro rn w H;simp only[bH]at H;obtain⟨V3,aw,H,hr3⟩:=Rel.aJ H;refine wk ?_;exact⟨V3,rn,hV2.trans aw,H.sx,rfl,hr3⟩
 rw[bA (λq=>he (Ij.1 q))];have e:jd S Z=Z:=by unfold jd;rw[ae he]
 rw[e];refine wk ?_;by_cases h0:fl=0/\Z=[]
 ·have e:iD fl Z=[]:=by unfold iD;rw[ag h0]
  obtain⟨h1,h2⟩:=h0;have h3:Z.length=0:=by rw[h2];rfl
  rw[e];refine wk ?_;exact⟨V2,⟨none,0,0⟩,hV2,H.sx,rfl,aA.nil _ _⟩
 have e:iD fl Z=az fl++cm az (ints Z):=by unfold iD;rw[ae h0]
 rw[e];have hpl:=I4 (Z:=Z) od hZ;have hpn:=dq (n:=(fl:Int)) aa aa;by_cases h1:fl=0
 ·have h3:Z.length≠0:=λq=>h0 ⟨h1,dt q⟩;refine wk ?_;refine(jW (n:=(fl:Int)) H.data (by constructor<;>omega)).use ?_;rintro v w⟨r1,rfl,K⟩;replace H:=H.cq K;refine wk ?_;refine(FF (l:=ints Z) (enc:=az) H.data (hz.up hV2) (λz hz=>ER z ?_) (by first|(simp only[aW];have:=od;omega)|simp) aa).use ?_
  ·obtain⟨n,hn,rfl⟩:=cJ.1 hz;have:=hZ n hn;constructor<;>omega
  rintro v w⟨r2,rfl,K⟩;replace H:=H.cq K;refine wk ?_;refine Rel.eB H (i:=0) rfl aa ?_;intro rn w H;simp only[bH]at H;obtain⟨V3,aw,H,hr3⟩:=Rel.aJ H;refine wk ?_;exact⟨V3,rn,hV2.trans aw,H.sx,rfl,hr3⟩
 refine wk ?_;refine(jW (n:=(fl:Int)) H.data (by constructor<;>omega)).use ?_;rintro v w⟨r1,rfl,K⟩;replace H:=H.cq K;refine wk ?_;refine(FF (l:=ints Z) (enc:=az) H.data (hz.up hV2) (λz hz=>ER z ?_) (by first|(simp only[aW];have:=od;omega)|simp) aa).use ?_
 ·obtain⟨n,hn,rfl⟩:=cJ.1 hz;have:=hZ n hn;constructor<;>omega
 rintro v w⟨r2,rfl,K⟩;replace H:=H.cq K;refine wk ?_;refine Rel.eB H (i:=0) rfl aa ?_;intro rn w H;simp only[bH]at H;obtain⟨V3,aw,H,hr3⟩:=Rel.aJ H;refine wk ?_;exact⟨V3,rn,hV2.trans aw,H.sx,rfl,hr3⟩
abbrev Ac(V:ad)(h:VH)(s:cv):Prop:=cb V h (wQ s)
theorem FC:∀(V V':ad) (x:VH) (y:cv),Sub V V'->Ac V x y->Ac V' x y:=λ_ _ _ _ k h=>h.up k
theorem Uf{s:Sl}{hs:List VH}(h1:aA a8 V s hs)(h2:Pw Ac V hs S):cb V ⟨3,0,⟨none,0,0⟩,⟨none,0,0⟩,s⟩ (kJ S) :=
 .mk hs rfl rfl (aA.nil _ _) (aA.nil _ _) h1 (by show hs.length=(S.map wQ).length;rw[h2.len,aW]) λi x p hx hp=>by
  have hp:(S.map wQ)[i]?=some p:=hp;rw[ib]at hp;cases hS:S[i]? with
  | none=>rw[hS]at hp;cases hp
  | some y =>rw[hS]at hp;cases hp;exact h2.all i x y hx hS
theorem Pu{sn sp xs:Sl}(h1:aA cO V sn [Cb,Cc])(h2:aA a8 V sp [jo (a:Int),ft xs])(h3:aF V xs d):Ac V ⟨4,0,⟨none,0,0⟩,sn,sp⟩ (a,d) :=
 Qh h1 h2 rfl λi x p hx hp=>by
  match i,hx,hp with
  | 0,hx,hp=>cases hx;cases hp;exact zK _ _
  | 1,hx,hp=>cases hx;cases hp;exact tS h3
  | i+2,hx,hp=>simp at hx
theorem agw(hV:Sub V W):aB 257 [] W λv w'=>∃(V':ad) (s:Sl),Sub V V'/\Rel W V [] V' w'/\v=s.v/\aA cO V' s [Cb,Cc]:=by have H:=aG hV;refine eV Tryz.func257 2 [0] ?_;refine H.wn ?_;intro w b1 H;obtain⟨V2,hV2,H,hb⟩:=H.cU;refine wk ?_;exact⟨V2,⟨some ⟨b1,0,none⟩,2,2⟩,hV2,H.sx,rfl,rfl,aQ _,hb.cells⟩
theorem ahF(hV:Sub V W){s:Sl}{S:List cv}(hs:oU V s S)(hl:S.length<=1000):aB 167 [s.v] W λv w'=>∃(V':ad) (h:VH),Sub V V'/\Rel W V [] V' w'/\v=gw h/\cb V' h (kJ S):=by
 have H:=aG hV;have fu:=hs.len;obtain⟨gs,hgs,hpw⟩:=hs;have rD:=hpw.len;refine eV Tryz.func167 31 [0,2,3,5,6,8,9,10,11] ?_;refine H.wn ?_;intro w b2 H;refine H.wn ?_;intro w b3 H;refine H.wg ?_;intro w H;replace H:=H.br 27 5;refine aP (S:=Nat×Sl×List VH) al [0,2,3,8,9] (λq=>[(10,iv q.1)]) (λq w'=>q.1<=S.length/\∃V3,Sub V V3/\Pw Ac V3 q.2.2 (S.take q.1)/\Rel W V [.row q.2.1 27 5 (q.2.2.flatMap a8),.ay b3 [iv 3,iv 0,.slice none 0 0,.slice none 0 0,q.2.1.v] 27,.ay b2 (a8 aV) 27] V3 w') (λq _=>S.length-q.1) (0,⟨none,0,0⟩,[]) ?_;conv=>whnf
 refine⟨sB,⟨aa,V,aS _,Pw.nil,H⟩,?_⟩;clear H;rintro⟨kk,pr,hh⟩w⟨nt,V3,aw,hP,H⟩;dsimp only at nt hP H |-;by_cases hlt:kk<S.length
 ·obtain⟨p0,c0,c1⟩:=(hgs.up aw).fF (g:=λh:Nat×Sl=>iv (h.1:Int)) (g':=λh:Nat×Sl=>h.2.v) (λ_=>rfl) (i:=kk) aa;have hR:=hpw.all kk _ _ (bz aa) (bz hlt);obtain⟨x,hx⟩:∃x,x=gs[kk]'aa:=⟨_,rfl⟩
  obtain⟨y,hy⟩:∃y,y=S[kk]:=⟨_,rfl⟩
  rw[<-hx,<-hy]at hR;rw[<-hx]at c0 c1;have hst:=bK hlt;rw[<-hy]at hst;obtain⟨xa,xs⟩:=x;obtain⟨ya,yd⟩:=y;obtain⟨rK,hby⟩:=hR;dsimp only at hby rK c0 c1;subst rK;have hpl:=hP.len;rw[bg]at hpl;refine H.wn ?_;intro w b5 H;refine H.wh ?_;intro w H;refine H.nA ?_;intro w b6 H;obtain⟨V4,ar,H,hb6⟩:=H.cU;refine wk ?_;refine dV 6 [2,5] [0,1,3,2,4,5,6,7,8] H ?_;intro w H;refine wk ((agw H.data).use ?_);rintro v w⟨V5,sn,aN,K,rfl,ff⟩;replace H:=H.bd K;refine H.wg ?_;intro _ w H;refine Rel.eH (f:=a8) (l:=hh) (x:=⟨4,0,⟨none,0,0⟩,sn,⟨some ⟨b6,0,none⟩,2,2⟩⟩) rfl (λ_=>rfl) (by simp[Value.oneCell']) H (by show(hh.length+1)*88<=_;omega) aa ?_;intro uX w H;refine H.wg ?_;intro w H;have q7:=ar.trans aN;refine⟨sB,(kk+1,uX,hh++[⟨4,0,⟨none,0,0⟩,sn,⟨some ⟨b6,0,none⟩,2,2⟩⟩]),sB,⟨by dsimp only;omega,V5,aw.trans q7,?_,H.sx⟩,by dsimp only;omega⟩;dsimp only;rw[hst];exact(hP.up FC q7).snoc (Pu ff ⟨rfl,aQ _,hb6.cells.tL aN⟩ (hby.up (aw.trans q7)))
 obtain rfl:kk=S.length:=aa;rw[fA]at hP;obtain⟨V4,ar,H,hr⟩:=Rel.aJ H;refine H.wg ?_;intro w H;exact⟨V4,⟨3,0,⟨none,0,0⟩,⟨none,0,0⟩,pr⟩,aw.trans ar,H.sx,rfl,Uf hr (hP.up FC ar)⟩
theorem akZ(hV:Sub V W)(hM:vm V){s:Sl}{l:ab}(hs:aF V s l)(hl:l.length<=1099511627776):aB 70 [s.v] W (mY W V (cH (hC l) l.length)):=by
 have H:=aG hV;have hlen:=hs.len;refine eV Tryz.func70 38 [0,2,3,4,5,6,7,8,11,14,15,23,30] ?_;refine H.wn ?_;intro w b2 H;refine H.wn ?_;intro w b4 H;by_cases dz:1000<l.length
 ·have e:cH (hC l) l.length=⟨zeroV,[],3, -1⟩:=by unfold cH;rw[ag dz]
  rw[e];refine wk (H.us (SQ H.data 3 (-1)) ?_);intro w H;refine H.wg ?_;intro _ w H;exact⟨V,aV,⟨none,0,0⟩,aS _,H.sx,rfl,cG _,aA.nil _ _⟩
 refine wk ?_;refine aP (S:=Nat) al [0,2,4,11] (λf=>[(14,iv f)]) (λf w'=>f<=4/\(∀g,g<f->gB g l=none)/\∃V2,Sub V V2/\Rel W V [.ay b4 [iv 0,iv 0] 31,.ay b2 (a8 aV) 27] V2 w') (λf _=>4-f) 0 ?_;conv=>whnf
 refine⟨sB,⟨aa,λg hg=>by omega,V,aS _,H⟩,?_⟩;clear H;rintro f w⟨A3,hno,V2,hV2,H⟩;by_cases hf:f<4;rotate_left
 ·obtain rfl:f=4:=aa;have e:cH (hC l) l.length=⟨zeroV,[],21, -1⟩:=by unfold cH;rw[ae dz,ME hno]
  rw[e];refine wk (H.us (SQ H.data 21 (-1)) ?_);intro w H;refine H.wg ?_;intro _ w H;exact⟨V2,aV,⟨none,0,0⟩,hV2,H.sx,rfl,cG _,aA.nil _ _⟩
 refine wk ?_;refine(aiV H.data (hM.up hV2) (hs.up hV2) aa hf).use ?_;rintro v w⟨V3,sg,sz,c,k,aw,K,rfl,hres⟩;replace H:=H.bd K;refine H.wn ?_;intro w b6 H;have bu:=hV2.trans aw;cases hr:rB f l with
 | none =>
  rw[hr]at hres;obtain rfl:=hres;have hone:gB f l=none:=by unfold gB;rw[hr]
  refine H.wg ?_;intro w H;exact⟨sB,f+1,sB,⟨aa,λg hg=>by
   by_cases e:g=f
   ·rw[e];exact hone
   exact hno g aa,V3,bu,H.sx⟩,aa⟩
 | some p =>
  obtain⟨S,Z⟩:=p;rw[hr]at hres;obtain⟨rfl,rfl,hsg,hsz⟩:=hres;have F:=T7 hr;have hok:=F.seg;have od:=F.len;obtain⟨init,_,i2,i3⟩:=F.ex;have uv:=Qr hok i2;have hB:=Qi hok aa;have hd:∀x∈S,x.2.length<=65536:=λx hx=>by have:=hok x hx;omega
  refine H.wg ?_;intro w H;refine(ahF H.data hsg aa).use ?_;rintro v w⟨V4,h,ar,K,rfl,hv⟩;replace H:=H.bd K;refine H.wn ?_;intro w b8 H;refine H.wg ?_;intro w H;refine H.us (Ct H.data hv hB) ?_;intro w H;by_cases hvf:(ct (kJ S)).1=0;rotate_left
  ·have hone:gB f l=none:=by unfold gB;rw[hr];simp only;rw[ae hvf]
   refine wk ?_;exact⟨sB,f+1,sB,⟨aa,λg hg=>by
    by_cases e:g=f
    ·rw[e];exact hone
    exact hno g aa,V4,bu.trans ar,H.sx⟩,aa⟩
  have hone:gB f l=some (kJ S,iD f (jd S Z)):=by unfold gB;rw[hr];simp only;rw[ag hvf]
  have e:cH (hC l) l.length=⟨kJ S,iD f (jd S Z),0,0⟩:=by unfold cH;rw[ae dz,Ud hf hno hone]
  rw[e,zO hvf];refine wk ?_;refine dV 10 [2] [0,1,3,2,4,5,6] H ?_;intro w H;refine wk ?_;refine(ajc H.data hf (hsg.up ar) (hsz.up ar) aa aa (λn hn=>(F.sz n hn).2) hd).use ?_;rintro v w⟨V5,r2,aN,K,rfl,hr2⟩;replace H:=H.bd K;refine H.wg ?_;intro _ w H;exact⟨V5,_,r2,(bu.trans ar).trans aN,H.sx,rfl,hv.up aN,hr2⟩
theorem ajB{s:Sl}(h:aF w s l):(Extern.Bytes.bytesOf s.v).run P w=.ok ⟨l.toArray⟩ w:=by
 obtain⟨a,n,c⟩:=s;have hn:n=l.length:=h.len;have hc:Cells w a (l.flatMap aI):=h.cells;rw[iu]at hc;cases a with
 | none =>
  have:l=[]:=by
   cases l with
   | nil=>rfl
   | cons x r =>have:=hc.1 ah;cases this
  subst this;rfl
 | some p =>
  have hl:=Lib.run_loadBytesX (P:=P) w (l.map λb=>(b.toNat:Int)) p .empty (λj x hj=>by
   rw[ib]at hj;cases hb:l[j]? with
   | none=>rw[hb]at hj;cases hj
   | some b =>
    rw[hb]at hj;cases hj;have hp:(some p:Option Addr)=some ⟨bW (some p),bM (some p),none⟩:=hc.1 (by rintro e;rw[List.map_eq_nil_iff]at e;rw[e]at hb;cases hb);have iz:p=⟨bW (some p),bM (some p),none⟩:=Option.some.inj hp;have e:p.add j=⟨bW (some p),bM (some p)+j,none⟩:=by
     conv=>lhs;rw[iz]
     exact addr_add _ _ j
    rw[e];exact hc.2 j _ (by rw[ib,hb];rfl))
  rw[aW,<-hn]at hl;show(Extern.Bytes.loadBytes p n .empty).run P w=_;rw[hl];congr 1;apply ByteArray.ext;show(#[]:Array UInt8)++(Lib.bytesOf (l.map λb=>(b.toNat:Int))).toArray=l.toArray;have:Lib.bytesOf (l.map λb=>(b.toNat:Int))=l:=by
   unfold Lib.bytesOf;rw[List.map_map];conv=>rhs;rw[<-List.map_id l]
   exact List.map_congr_left λx _=>by simp
  rw[this];simp
section
open Go Go.RowKit Go.Shelf
theorem ajE{s:Sl}(h:aF w s l)(c:Int):(Extern.BytealgIndexByte.indexByte #[s.v,.int .u8 c]).run P w=.ok (iv (Lib.indexByte l c.toNat.toUInt8)) w:=by
 have hs:=WT (P:=P) ⟨l.toArray⟩ c w
 change Sem.run P (do
  let b <-Extern.Bytes.bytesOf s.v
  let c <-Extern.Bytes.asByte (.int .u8 c)
  match(bZ b.size).find? λi=>b[i]! == c with
  | some i=>pure (goInt i)
  | none=>pure (goInt (-1))) w=_
 change Sem.run P (do
  let b <-Extern.Bytes.bytesOf (.string ⟨l.toArray⟩)
  let c <-Extern.Bytes.asByte (.int .u8 c)
  match(bZ b.size).find? λi=>b[i]! == c with
  | some i=>pure (goInt i)
  | none=>pure (goInt (-1))) w=_ at hs
 simp only[Sem.run_bind,ajB h,Result.andThen]at hs |-;simp only[Extern.Bytes.bytesOf,Sem.run_pure]at hs;exact hs
theorem Y7(c:UInt8):((c.toNat:Nat):Int).toNat.toUInt8=c:=ah
theorem ae3(hV:Sub V W){s:Sl}{l:ab}(hs:aF V s l)(c:UInt8):aB 330 [s.v,bv c] W λv w'=>v=iv (Lib.indexByte l c)/\Rel W V [] V w' :=
 fY.Ob Tryz.func330 av av av (e:=Extern.BytealgIndexByte.indexByte) av (ajE (hs.up hV) c.toNat) ⟨by rw[Y7],aG hV⟩
theorem ae2(hV:Sub V W){s:Sl}{l:ab}(hs:aF V s l)(c:UInt8):aB 310 [s.v,bv c] W λv w'=>v=iv (Lib.indexByte l c)/\Rel W V [] V w':=by have H:=aG hV;refine eV Tryz.func310 8 [0,1,4] ?_;refine wk (H.us (ae3 H.data hs c) ?_);intro w H;refine wk ?_;exact H
theorem U3(hV:Sub V W)(l:ab)(c:UInt8):aB 331 [str l,bv c] W λv w'=>v=iv (Lib.indexByte l c)/\Rel W V [] V w' :=
 fY.Ob Tryz.func331 av av av (e:=Extern.BytealgIndexByte.indexByte) av (WT _ _ _) ⟨by rw[Y7],aG hV⟩
def ai4:Shelf.Ren:=⟨λx=>if x=32 then 314 else if x=49 then 340 else x,
 λx=>if x=0 then 0 else if x=3 then 3 else if x=4 then 4 else if x=5 then 5 else if x=21 then 21 else if x=25 then 132 else if x=30 then 22 else if x=33 then 365 else if x=66 then 258 else if x=68 then 260 else if x=69 then 261 else x,
 λx=>if x=2 then 0 else if x=3 then 1 else x⟩
theorem afs:Lays7.n32 Tryz.prog ai4 where
 mixed:=av
 f32:=Tryz.func314.trans (ax some av)
 f49:=Tryz.func340.trans (ax some av)
 t0:=Tryz.underlying0
 a0:=Tryz.isAgg0
 z0:=Tryz.sizeOf0
 v0:=Tryz.zeroValue0
 i0:=av
 t3:=Tryz.underlying3
 a3:=Tryz.isAgg3
 z3:=Tryz.sizeOf3
 v3:=Tryz.zeroValue3
 i3:=av
 t4:=Tryz.underlying4
 a4:=Tryz.isAgg4
 z4:=Tryz.sizeOf4
 v4:=Tryz.zeroValue4
 i4:=av
 t5:=Tryz.underlying5
 a5:=Tryz.isAgg5
 z5:=Tryz.sizeOf5
 v5:=Tryz.zeroValue5
 i5:=av
 t21:=Tryz.underlying21
 a21:=Tryz.isAgg21
 z21:=Tryz.sizeOf21
 v21:=Tryz.zeroValue21
 i21:=av
 t25:=Tryz.underlying132
 a25:=Tryz.isAgg132
 z25:=Tryz.sizeOf132
 v25:=Tryz.zeroValue132
 i25:=av
 t30:=Tryz.underlying22
 a30:=Tryz.isAgg22
 z30:=Tryz.sizeOf22
 v30:=Tryz.zeroValue22
 i30:=av
 t33:=Tryz.underlying365
 a33:=Tryz.isAgg365
 z33:=Tryz.sizeOf365
 v33:=Tryz.zeroValue365
 i33:=av
 t66:=Tryz.underlying258
 a66:=Tryz.isAgg258
 z66:=Tryz.sizeOf258
 t68:=Tryz.underlying260
 a68:=Tryz.isAgg260
 z68:=Tryz.sizeOf260
 v68:=Tryz.zeroValue260
 i68:=av
 t69:=Tryz.underlying261
 a69:=Tryz.isAgg261
 z69:=Tryz.sizeOf261
 v69:=Tryz.zeroValue261
 i69:=av
 g2:=av
 g3:=av
abbrev qS(V:ad):Prop:=Lib.Utf8Tabs 0 1 V
theorem Ck(h:qS V)(k:Sub V V'):qS V' :=
 ⟨λc hc=>k.cell (h.1 c hc),λi hi=>⟨k.cell (h.2 i hi).1,k.cell (h.2 i hi).2⟩⟩
def Ax(l:ab):Nat×Nat:=Lib.decodeN l.length (at8 l 0) (at8 l 1) (at8 l 2) (at8 l 3)
theorem LS(l:ab)(i:Nat):((⟨l.toArray⟩:ByteArray).get! i).toNat=at8 l i:=by
 show((l.toArray)[i]!).toNat=_;unfold at8;by_cases h:i<l.length
 ·simp[h]
 simp[h];rfl
theorem ab7(hne:l≠[]):Lib.decodeGo ⟨l.toArray⟩=Ax l:=by
 have hs:(⟨l.toArray⟩:ByteArray).size=l.length:=by simp[ByteArray.size]
 have hl:=iC.2 hne;unfold Lib.decodeGo Ax;rw[ae aa,Lib.decode_at,hs];simp only[LS,Nat.sub_zero,dR]
theorem acb(hV:Sub V W)(hT:qS V){s:Sl}{l:ab}(hs:aF V s l)(hne:l≠[]):aB 314 [s.v] W λv w'=>v=.tuple #[.int .i32 ((Ax l).1:Nat),iv ((Ax l).2:Nat)]/\Rel W V [] V w':=by
 have hlen:=hs.len;obtain⟨hpl,_⟩:=hs.aR (g:=bv) (i:=0) (λ_=>rfl) (iC.2 hne);obtain⟨a,n,c⟩:=s;cases a with
 | none=>exact absurd hpl (by simp[Plain])
 | some p =>
  obtain⟨b,o,z⟩:=p;dsimp only at hlen hpl;obtain rfl:z=none:=by simp only[Plain,Option.some.injEq,Addr.mk.injEq]at hpl;exact hpl.2.2
  subst hlen;have hsz:(⟨l.toArray⟩:ByteArray).size=l.length:=by simp[ByteArray.size]
  have hc:=Any7.utf8_DecodeRune afs ⟨l.toArray⟩ b o c W (Ck hT hV) (λj hj=>by rw[hsz]at hj;obtain⟨_,h⟩:=hs.aR (g:=bv) (λ_=>rfl) hj;rw[LS,qU hj];exact hV.cell h)
  rw[hsz,ab7 hne]at hc;exact fY.uT Tryz.func314 av av (Calls.nD hc λe w' ⟨he,hb⟩=>⟨_,he,rfl,Rel.ext (aG hV) ⟨hb.os,hb.tape,hb.output,hb.size,hb.block⟩⟩)
def la(s:UInt8)(l:ab):Int:=if(jf s l).2=[]then -1 else((jf s l).1.length:Nat)
theorem NG(hi:i<l.length)(h:eR s (l.take i)=false)(ht:lT s l[i]=true):la s l=(i:Nat):=by have e:=J1 (s:=s) (x:=l.take i) (t:=l[i]::l.drop (i+1)) h (.inr ⟨_,_,rfl,ht⟩);rw[<-List.drop_eq_getElem_cons hi,List.take_append_drop]at e;unfold la;rw[e];simp only;rw[ae (Xb (by rw[aU];omega)),bg,Nat.min_eq_left (Nat.le_of_lt hi)]
theorem Ep(h:eR s l=false):la s l = -1:=by have e:=J1 (s:=s) (x:=l) (t:=[]) h (.inl rfl);rw[aZ]at e;unfold la;rw[e];rfl
theorem YU(hs:s.toNat<128)(hc:128<=c.toNat):lT s c=false:=by
 have h1:c≠s:=λh=>by subst h;omega
 have h2:c≠34:=λh=>by subst h;exact absurd hc ai
 have h3:c≠13:=λh=>by subst h;exact absurd hc ai
 have h4:c≠10:=λh=>by subst h;exact absurd hc ai
 simp[lT,h1,h2,h3,h4]
theorem JV(hi:i<l.length)(h:eR s (l.take i)=false)(ht:lT s l[i]=false):eR s (l.take (i+1))=false:=by rw[bK hi];unfold eR at h |-;rw[List.any_append,h];simpa using ht
theorem FO{s:UInt8}(hs:s.toNat<128){l:ab}{i:Nat}:∀ {k:Nat},i+k<=l.length->eR s (l.take i)=false->(∀j,i<=j->j<i+k->128<=at8 l j)->eR s (l.take (i+k))=false
 | 0,_,h,_=>h
 | k+1,hk,h,hj=>by have ih:=FO hs (k:=k) aa h λj h1 h2=>hj j h1 aa;have h8:=hj (i+k) aa aa;rw[qU (i:=i+k) aa]at h8;exact JV (i:=i+k) aa ih (YU hs h8)
theorem Ih(x:UInt8):∀l:ab,0<=Lib.indexByte l x↔x∈l
 | []=>by simp[Lib.indexByte]
 | b::l=>by
  have ih:=Ih x l;have rC:=Xg l x;unfold Lib.indexByte;by_cases h:b=x
  ·subst h;simp
  have h2:¬x=b:=λe=>h e.symm;rw[ae (by simpa using h)];by_cases h3:Lib.indexByte l x = -1
  ·rw[h3]at ih |-;simp only[bP,h2,false_or,<-ih];simp
  rw[ae (by simpa using h3)];simp only[bP,h2,false_or,<-ih];omega
theorem LO{c x:UInt8}:(0<=Lib.indexByte [34,13,10,c] x)↔lT c x=true:=by
 rw[Ih];simp only[lT,bP,List.not_mem_nil,or_false,rY,eQ];constructor
 ·rintro(h|h|h|h)<;>simp[h]
 rintro(((h|h)|h)|h)<;>simp[h]
structure Kr(n b1 b2 b3:Nat)(p:Nat×Nat):Prop where
 hi:128<=p.1
 lt:p.1<1114112
 w1:1<=p.2
 wn:p.2<=n
 w4:p.2<=4
 t1:1<p.2->128<=b1
 t2:2<p.2->128<=b2
 t3:3<p.2->128<=b3
 w2:p.1≠65533->2<=p.2
 enc:p.1≠65533->(Utf8.encode (p.1:Nat)).size=p.2
theorem Ll{c:Nat}(hv:c<55296\/(57344<=c/\c<=1114111)):(Utf8.encode (c:Nat)).size=if c<128 then 1 else if c<2048 then 2 else if c<65536 then 3 else 4:=by
 have h1:Utf8.valid (c:Int)=true:=by simp only[Utf8.valid,rY,eD,eQ];omega
 simp only[Utf8.encode,h1,if_true,Int.toNat_natCast];repeat' split
 all_goals rfl
theorem acB{c:Nat}(h:128<=c):∃e t,Utf8.encode (c:Nat)=⟨(e::t).toArray⟩/\128<=e.toNat:=by
 obtain⟨d,hd,pf⟩:∃d,d=(if Utf8.valid (c:Int)then(c:Int).toNat else Utf8.runeError)/\(128<=d/\d<1114112):=by
  refine⟨_,rfl,?_⟩;split
  ·rename_i hv;simp only[Utf8.valid,rY,eD,eQ]at hv;omega
  decide
 have hne:¬d<128:=aa;simp only[Utf8.encode,<-hd,hne,if_false];have u8:∀n,128<=n->n<256->128<=(aD n).toNat:=λn h1 h2=>by rw[UInt8.toNat_ofNat'];omega
 split
 ·exact⟨_,_,rfl,u8 _ aa aa⟩
 split
 ·exact⟨_,_,rfl,u8 _ aa aa⟩
 exact⟨_,_,rfl,u8 _ aa aa⟩
theorem ab8{b0 b1 b2 b3:Nat}(hn:1<=n)(h0:128<=b0)(k0:b0<256)(k1:b1<256)(k2:b2<256)(k3:b3<256):Kr n b1 b2 b3 (Lib.decodeN n b0 b1 b2 b3):=by
 have err:Kr n b1 b2 b3 (65533,1):=⟨ai,ai,ai,hn,ai,ah,ah,ah,ah,ah⟩
 unfold Lib.decodeN;rw[ae aa];split
 ·rename_i g1;split
  ·refine⟨by dsimp only;omega,by dsimp only;omega,by dsimp only;omega,by dsimp only;omega,by dsimp only;omega,λ_=>by omega,λh=>by simp at h,λh=>by simp at h,λ_=>by dsimp only;omega,λ_=>?_⟩;rw[Ll (by dsimp only;omega)];dsimp only;rw[ae aa,ag aa]
  exact err
 split
 ·rename_i g1;split
  ·rename_i g2;refine⟨by dsimp only;omega,by dsimp only;omega,by dsimp only;omega,by dsimp only;omega,by dsimp only;omega,λ_=>by omega,λ_=>by omega,λh=>by simp at h,λ_=>by dsimp only;omega,λ_=>?_⟩;rw[Ll (by dsimp only;omega)];dsimp only;rw[ae aa,ae aa,ag aa]
  exact err
 split
 ·rename_i g1;split
  ·rename_i g2;refine⟨by dsimp only;omega,by dsimp only;omega,by dsimp only;omega,by dsimp only;omega,by dsimp only;omega,λ_=>by omega,λ_=>by omega,λ_=>by omega,λ_=>by dsimp only;omega,λ_=>?_⟩;rw[Ll (by dsimp only;omega)];dsimp only;rw[ae aa,ae aa,ae aa]
  exact err
 exact err
theorem QT(l:ab)(i j:Nat):at8 (l.drop i) j=at8 l (i+j):=by unfold at8;rw[List.getElem?_drop]
theorem Gy(l:ab)(i:Nat):at8 l i<256:=UInt8.toNat_lt _
theorem U1{e:UInt8}{t:ab}(he:128<=e.toNat):∀ {cs:ab},(∀b∈cs,b.toNat<128)->Lib.index cs (e::t) = -1
 | [],_=>rfl
 | b::cs,h=>by
  have hb:=h b ah;have hne:(e == b)=false:=by rw[beq_eq_false_iff_ne];intro h;subst h;omega
  unfold Lib.index;rw[U1 he λx hx=>h x (by simp[hx])];simp[List.isPrefixOf,hne]
theorem Lf(hc:c.toNat<128){k:Nat}(hk:k<4):∃d,d<128/\Utf8.decode ⟨([34,13,10,c]:ab).toArray⟩ k=(d,1):=by
 refine⟨at8 [34,13,10,c] k,?_,?_⟩
 ·match k,hk with
  | 0,_=>exact(by decide:(34:UInt8).toNat<128)
  | 1,_=>exact(by decide:(13:UInt8).toNat<128)
  | 2,_=>exact(by decide:(10:UInt8).toNat<128)
  | 3,_=>exact hc
 rw[Lib.decode_at,LS];unfold Lib.decodeN;rw[ag];match k,hk with
 | 0,_=>exact(by decide:(34:UInt8).toNat<128)
 | 1,_=>exact(by decide:(13:UInt8).toNat<128)
 | 2,_=>exact(by decide:(10:UInt8).toNat<128)
 | 3,_=>exact hc
theorem Rs{s d:TypeId}(hs:(P.underlying s).isSome=true)(hd:P.underlying d=some .string){k:IntKind}{n:Int}{l:ab}(hn:Utf8.encode n=⟨l.toArray⟩){G:aj->ad->Prop}(hk:G (str l) w):bE P (convert s d (.int k n)) w G :=
 Rel.K0 hs hd (by rw[hn];exact hk)
def pO(V:ad):Prop:=∃m:Int,V.cell? ⟨2,0,none⟩=some (.int .i64 m)
theorem pO.up(h:pO V)(k:Sub V V'):pO V':=by obtain⟨m,hm⟩:=h;exact⟨m,k.cell hm⟩
theorem ZO(h:n<2147483648):wr .i32 (n:Int)=(n:Int):=by unfold wr;simp only[IntKind.wrap,IntKind.bits,IntKind.signed];simp;omega
structure Z3(r:Nat)(e:UInt8)(t:ab):Prop where
 out:Utf8.encode (r:Nat)=⟨(e::t).toArray⟩
theorem ae6(hV:Sub V W){m:Int}(hm:V.cell? ⟨2,0,none⟩=some (.int .i64 m)){cs:ab}(hcs:∀b∈cs,b.toNat<128)(hl:cs.length<1000){e:UInt8}{t:ab}(he:128<=e.toNat)(h2:1<=t.length)(hb:(t.length:Int)+1<=m) :
  aB 334 [str cs,str (e::t)] W λv w'=>v=iv (-1)/\Rel W V [] V w':=by
 have hz:∀l:ab,(⟨l.toArray⟩:ByteArray).size=l.length:=λl=>by simp[ByteArray.size]
 refine fY.Ob Tryz.func334 av av av (e:=Extern.BytealgIndex.index) av (Lib.run_indexString ⟨cs.toArray⟩ ⟨(e::t).toArray⟩ W 2 m av (hV.cell hm) (by rw[hz,aq];omega) (by rw[hz,aq];omega) (by rw[hz];omega)) ⟨?_,aG hV⟩;simp only[U1 he hcs]
theorem aaU(hV:Sub V W)(n:Int):aB 333 [iv n] W λv w'=>v=.bool (decide (8<n))/\Rel W V [] V w':=by have H:=aG hV;refine eV Tryz.func333 5 [0,2] ?_;refine wk ?_;exact H
def zt(cs:ab):aC:=(bZ 256).map λj=>Value.bool (cs.contains (aD j))
theorem ajZ(cs:ab)(x:UInt8):(zt cs)[x.toNat]?=some (.bool (cs.contains x)):=by unfold zt;rw[ib,List.getElem?_range x.toNat_lt];simp
def ai6:Shelf.Ren:=⟨λ_=>295,λx=>if x=0 then 0 else if x=3 then 3 else if x=4 then 4 else if x=5 then 5 else if x=9 then 9 else if x=27 then 349 else x,λx=>x⟩
theorem aft:SlLaysV.n11 Tryz.prog ai6 where
 mixed:=av
 f11:=Tryz.func295.trans (ax some av)
 t0:=Tryz.underlying0
 a0:=Tryz.isAgg0
 z0:=Tryz.sizeOf0
 v0:=Tryz.zeroValue0
 t3:=Tryz.underlying3
 a3:=Tryz.isAgg3
 z3:=Tryz.sizeOf3
 v3:=Tryz.zeroValue3
 t4:=Tryz.underlying4
 a4:=Tryz.isAgg4
 z4:=Tryz.sizeOf4
 v4:=Tryz.zeroValue4
 t5:=Tryz.underlying5
 a5:=Tryz.isAgg5
 z5:=Tryz.sizeOf5
 v5:=Tryz.zeroValue5
 t9:=Tryz.underlying9
 a9:=Tryz.isAgg9
 z9:=Tryz.sizeOf9
 v9:=Tryz.zeroValue9
 t27:=Tryz.underlying349
 a27:=Tryz.isAgg349
 z27:=Tryz.sizeOf349
theorem aaT(hV:Sub V W){cs:ab}(hcs:∀b∈cs,b.toNat<128)(hl:cs.length<1000):aB 295 [str cs] W λv w'=>v=.tuple #[.agg (zt cs).toArray,.bool true]/\Rel W V [] V w':=by
 have h:=Any.bytes_makeASCIISet aft (λw=>by kernel_rfl) av ⟨cs.toArray⟩ W (by show cs.toArray.size<_;simp;omega) (λj b hb=>hcs b (List.mem_of_getElem? (by simpa using hb)));have e:Lib.setCells (⟨cs.toArray⟩:ByteArray).data.toList=(zt cs).toArray:=by rw[Lib.setCells_eq];unfold zt;apply Array.ext';simp
 rw[e]at h;exact fY.uT Tryz.func295 av av (Calls.nD h λe w' ⟨he,hw⟩=>⟨_,he,rfl,by rw[hw];exact((aG hV).newObj _).pY⟩)
theorem adk{x:UInt8}:([34,13,10,c]:ab).contains x=lT c x:=by rw[Jk,List.contains_iff_mem,<-LO,Ih]
theorem aaS(hV:Sub V W){b:Nat}{cs:ab}(hb:dN V b (zt cs) 349)(x:UInt8):aB 319 [.pointer (some ⟨b,0,none⟩),bv x] W λv w'=>v=.bool (cs.contains x)/\Rel W V [] V w':=by have H:=aG hV;have h1:=hb.cS (ajZ cs x);have rJ:=x.toNat_lt;refine eV Tryz.func319 10 [0,1,4] ?_;refine wk ?_;rw[show x.toNat=placeOf 0 ((x.toNat:Nat):Int).toNat 1 by simp[placeOf]]at h1;refine⟨_,H.Aw h1,?_⟩;refine wk ?_;exact H
theorem ND(hV:Sub V W)(hT:qS V)(hM:pO V){s:Sl}{l:ab}(hs:aF V s l)(hl:l.length<=100000000){c:UInt8}(hc:c.toNat<128):aB 311 [s.v,str [34,13,10,c]] W λv w'=>v=iv (la c l)/\Rel W V [] V w':=by
 have H:=aG hV;have hlen:=hs.len;have hz4:(ByteArray.mk ([34,13,10,c]:ab).toArray).size=4:=rfl;have hc4:∀b∈[34,13,10,c],b.toNat<128:=by simp[hc]
 obtain⟨m,hm⟩:=hM;refine eV Tryz.func311 129 [0,1,4,5,6,7,8,9,10,11,12,13,15,17,20,26,28,29,30,33,39,42,47,53,59,60,61,62,63,68,74,84,91,101,105,109,113,118,121,122,123,127] ?_;by_cases h1:l.length=1
 ·obtain⟨x,rfl⟩:∃x,l=[x]:=by
   match l,h1 with
   | [x],_=>exact⟨x,rfl⟩
  obtain⟨p0,c0⟩:=hs.aR (g:=bv) (i:=0) (λ_=>rfl) ah;change V.cell? _=some (bv x)at c0;have rJ:=x.toNat_lt;have El:wr .i32 (x.toNat:Int)=(x.toNat:Int):=ZO aa;by_cases hx:128<=x.toNat
  ·have e:la c [x] = -1:=Ep (by simp[eR,YU hc hx]);rw[e];refine wk ?_;rw[El];refine wk ?_;refine Rel.range al rfl rfl H ?_;intro w b H;refine wk ?_;refine aP al [0,1,6,7,8,9,10,11,12,13,15,17,20,26,28,39,42,47,53,59,60,61,62,63,68,74,84,91,101,105,109,113,118,121,122,123,127] (λ_:Nat=>[]) (λk w'=>k<=4/\Rel W V [.obj b (.stringIter ⟨([34,13,10,c]:ab).toArray⟩ k)] V w') (λk _=>4-k) 0 ?_;conv=>whnf
   refine⟨trivial,⟨aa,H⟩,?_⟩;clear H;rintro kk w⟨nt,H⟩;conv=>whnf
   refine Rel.next H (λhlt w H=>?_) (λhlt=>?_)
   ·have hk4:kk<4:=hlt;obtain⟨d,hd,DN⟩:=Lf hc hk4;rw[DN]at H |-;refine wk ?_;exact⟨sB,kk+1,trivial,⟨aa,H⟩,aa⟩
   refine wk ?_;exact H.sx
  refine wk ?_;rw[El];refine wk (H.us (U3 H.data _ x) ?_);intro w H;have hin:=@LO c x;have rC:=Xg [34,13,10,c] x;generalize Lib.indexByte [34,13,10,c] x=z at hin rC;cases ht:lT c x with
  | true =>have e:la c [x]=0:=NG (i:=0) ah rfl ht;rw[e];have uM:=hin.2 ht;refine wk ?_;exact H.sx
  | false =>
   have e:la c [x] = -1:=Ep (by simp[eR,ht]);rw[e];have uM:z<0:=by
    rcases Int.lt_or_le z 0 with h|h
    ·exact h
    rw[hin.1 h]at ht;cases ht
   refine wk ?_;exact H.sx
 refine wk (H.us (aaU H.data s.len) ?_);intro w H;by_cases h8:8<l.length
 ·rw[bw (show(8:Int)<s.len by omega)];refine wk ?_;refine H.us (aaT H.data hc4 ah) ?_;intro w H;refine H.wn ?_;intro w b7 H;refine H.wh ?_;intro w H;replace H:=H.cB (c':=zt [34,13,10,c]) bX;obtain⟨V2,hV2,H,j8⟩:=H.cU;refine wk ?_;have Nn:=hs.up hV2;refine aP (S:=Nat) al [0,1,5,6,7,8,11,12,13,15,17,20,26,28,29,30,33,39,42,47,53,59,60,61,74,84,91,101,105,109,113,118,121,122,123,127] (λi=>[(62,iv i)]) (λi w'=>i<=l.length/\eR c (l.take i)=false/\Rel W V [] V2 w') (λi _=>l.length-i) 0 ?_;conv=>whnf
  refine⟨sB,⟨aa,rfl,H⟩,?_⟩;clear H;rintro i w⟨hi,hno,H⟩;by_cases hlt:i<l.length;rotate_left
  ·rw[bJ aa]at hno;rw[Ep hno];refine wk ?_;exact H.less (aS _) hV2
  obtain⟨p0,c0⟩:=Nn.aR (g:=bv) (λ_=>rfl) hlt;obtain⟨x,hx⟩:∃x,x=l[i]:=⟨_,rfl⟩
  rw[<-hx]at c0;have rJ:=x.toNat_lt;refine wk (H.us (aaS H.data j8 x) ?_);intro w H;rw[adk];cases ht:lT c x with
  | true =>have e:la c l=(i:Nat):=NG hlt hno (by rw[<-hx];exact ht);rw[e];refine wk ?_;exact H.sx.less (aS _) hV2
  | false =>refine wk ?_;exact⟨sB,i+1,sB,⟨aa,JV hlt hno (by rw[<-hx];exact ht),H.sx⟩,aa⟩
 rw[bA aa];refine wk ?_;refine aP (S:=Nat) al [0,1,5,6,7,8,9,10,17,20,26,28,29,30,33,39,42,47,53,59,60,61,62,63,68] (λi=>[(12,iv i)]) (λi w'=>i<=l.length/\eR c (l.take i)=false/\Rel W V [] V w') (λi _=>l.length-i) 0 ?_;conv=>whnf
 refine⟨sB,⟨aa,rfl,H⟩,?_⟩;clear H;rintro i w⟨hi,hno,H⟩;by_cases hlt:i<l.length;rotate_left
 ·rw[bJ aa]at hno;rw[Ep hno];refine wk ?_;exact H.sx
 obtain⟨p0,c0⟩:=hs.aR (g:=bv) (λ_=>rfl) hlt;obtain⟨x,hx⟩:∃x,x=l[i]:=⟨_,rfl⟩
 rw[<-hx]at c0;have rJ:=x.toNat_lt;have El:wr .i32 (x.toNat:Int)=(x.toNat:Int):=ZO aa;by_cases yK:x.toNat<128
 ·refine wk ?_;rw[El];refine wk (H.us (U3 H.data _ x) ?_);intro w H;have hin:=@LO c x;have rC:=Xg [34,13,10,c] x;generalize Lib.indexByte [34,13,10,c] x=z at hin rC;cases ht:lT c x with
  | true =>have e:la c l=(i:Nat):=NG hlt hno (by rw[<-hx];exact ht);rw[e];have uM:=hin.2 ht;refine wk ?_;exact H.sx
  | false =>
   have uM:z<0:=by
    rcases Int.lt_or_le z 0 with h|h
    ·exact h
    rw[hin.1 h]at ht;cases ht
   refine wk ?_;exact⟨sB,i+1,sB,⟨aa,JV hlt hno (by rw[<-hx];exact ht),H.sx⟩,aa⟩
 have hsub:=hs.sub (n:=1) (λ_=>rfl) (a:=i) (b:=l.length) hi (aQ _);rw[fA]at hsub;have og:=hs.cap;have hF:=ab8 (n:=(l.drop i).length) (b0:=at8 (l.drop i) 0) (b1:=at8 (l.drop i) 1) (b2:=at8 (l.drop i) 2) (b3:=at8 (l.drop i) 3) (by rw[aU];omega) (by rw[QT,Nat.add_zero,qU hlt,<-hx];omega) (Gy _ _) (Gy _ _) (Gy _ _) (Gy _ _);change Kr _ _ _ _ (Ax (l.drop i))at hF;refine wk ?_;rw[El];refine wk ?_;refine(acb H.data hT (hlen▸hsub) (Xb (by rw[aU];omega))).use ?_;rintro v w⟨rfl,K⟩;replace H:=H.bd K;obtain⟨r,k,Nf⟩:∃r k,Ax (l.drop i)=(r,k):=⟨_,_,rfl⟩
 rw[Nf]at hF |-;obtain⟨f1,f2,f3,f4,f5,f6,f7,f8,f10,f9⟩:=hF;dsimp only at f1 f2 f3 f4 f5 f6 f7 f8 f9 f10 |-;rw[aU]at f4;rw[QT]at f6 f7 f8;have dz:∀j,i<=j->j<i+k->128<=at8 l j:=λj h1 h2=>by
  have:j=i\/j=i+1\/j=i+2\/j=i+3:=aa;rcases this with rfl|rfl|rfl|rfl
  ·rw[qU hlt,<-hx];omega
  ·exact f6 aa
  ·exact f7 aa
  exact f8 aa
 obtain⟨zr,NC⟩:∃zr:Int,zr=(r:Nat):=⟨_,rfl⟩
 rw[<-NC];clear f2;by_cases Ea:zr=65533
 ·refine wk ?_;refine Rel.range al rfl rfl H ?_;intro w b H;refine wk ?_;refine aP al [0,1,5,6,7,8,9,10,11,12,13,17,20,26,28,29,30,33,39,42,47,53,59,60,61,62,63,68,74,84,91,101,105,109,113,118,121] (λ_:Nat=>[]) (λk w'=>k<=4/\Rel W V [.obj b (.stringIter ⟨([34,13,10,c]:ab).toArray⟩ k)] V w') (λk _=>4-k) 0 ?_;conv=>whnf
  refine⟨trivial,⟨aa,H⟩,?_⟩;clear H;rintro kk w⟨nt,H⟩;conv=>whnf
  refine Rel.next H (λhlt w H=>?_) (λhlt=>?_)
  ·have hk4:kk<4:=hlt;obtain⟨d,hd,DN⟩:=Lf hc hk4;rw[DN]at H |-;refine wk ?_;exact⟨sB,kk+1,trivial,⟨aa,H⟩,aa⟩
  refine wk ?_;refine⟨sB,i+k,sB,⟨aa,FO hc aa hno dz,H.sx⟩,aa⟩
 obtain⟨e,t,hen,HK⟩:=acB f1;have hsz:=f9 aa;have tf:=f10 aa;rw[hen]at hsz;replace hen:Z3 r e t:=⟨hen⟩
 replace hsz:t.length+1=k:=by simpa [ByteArray.size]using hsz
 by_cases hk4:k=4
 ·conv=>whnf
  refine cT ?_;conv=>whnf
  refine cT ?_;refine wk ?_;refine Rs rfl rfl (l:=e::t) (by rw[NC];exact hen.out) ?_;conv=>whnf
  have hne:¬([34,13,10,c]:ab)=e::t:=λh=>by cases h;exact absurd HK ai
  rw[bA hne];refine wk ?_;refine⟨sB,i+k,sB,⟨aa,FO hc aa hno dz,H.sx⟩,aa⟩
 by_cases fM:(k:Int)<=m
 ·conv=>whnf
  refine cT ?_;conv=>whnf
  refine cF ?_;conv=>whnf
  refine H.db ?_;conv=>whnf
  refine cT ?_;refine wk ?_;refine Rs rfl rfl (l:=e::t) (by rw[NC];exact hen.out) ?_;refine wk ?_;refine H.us (ae6 H.data hm hc4 ah HK aa aa) ?_;intro w H;refine wk ?_;refine⟨sB,i+k,sB,⟨aa,FO hc aa hno dz,H.sx⟩,aa⟩
 refine wk ?_;refine Rel.range al rfl rfl H ?_;intro w b H;refine wk ?_;refine aP al [0,1,5,6,7,8,9,10,11,12,13,17,20,26,28,29,30,33,39,42,47,53,59,60,61,62,63,68,74,84,91,101,105,109,113,118,121] (λ_:Nat=>[]) (λk w'=>k<=4/\Rel W V [.obj b (.stringIter ⟨([34,13,10,c]:ab).toArray⟩ k)] V w') (λk _=>4-k) 0 ?_;conv=>whnf
 refine⟨trivial,⟨aa,H⟩,?_⟩;clear H;rintro kk w⟨nt,H⟩;conv=>whnf
 refine Rel.next H (λhlt w H=>?_) (λhlt=>?_)
 ·have hk4:kk<4:=hlt;obtain⟨d,hd,DN⟩:=Lf hc hk4;rw[DN]at H |-;refine wk ?_;exact⟨sB,kk+1,trivial,⟨aa,H⟩,aa⟩
 refine wk ?_;refine⟨sB,i+k,sB,⟨aa,FO hc aa hno dz,H.sx⟩,aa⟩
end
theorem afi(s:UInt8)(l:ab):(0<=la s l)↔eR s l=true:=by
 cases h:eR s l with
 | false=>rw[Ep h];simp
 | true =>
  obtain⟨h1,h2⟩:=FR s l;have h3:(jf s l).2≠[]:=λe=>by rw[e,aZ]at h1;rw[<-h1,h]at h2;cases h2
  unfold la;rw[ae h3];simp only[iff_true];omega
theorem abM(hV:Sub V W)(hT:qS V)(hM:pO V){s:Sl}{l:ab}(hs:aF V s l)(hl:l.length<=100000000){c:UInt8}(hc:c.toNat<128):aB 282 [s.v,str [34,13,10,c]] W λv w'=>v=.bool (eR c l)/\Rel W V [] V w':=by
 have H:=aG hV;refine eV Tryz.func282 9 [0,1,4] ?_;refine wk (H.us (ND H.data hT hM hs hl hc) ?_);intro w H;have hin:=afi c l;generalize la c l=z at hin;have e:decide (z>=0)=eR c l:=by rw[Jk,eQ,<-hin]
 refine wk ?_;first|rw[e]|rw[show decide (0<=z)=eR c l from e]
 exact⟨rfl,H.sx⟩
theorem SO:∀ {l:ab},l.count 34=0->kU l=l
 | [],_=>rfl
 | c::l,h=>by
  rw[Ff]at h;unfold kU;by_cases hc:c=34
  ·rw[hc]at h;simp at h
  rw[ae hc,SO aa]
theorem SN:∀(l:ab),(kU l).length=l.length+l.count 34
 | []=>rfl
 | c::l=>by
  have ih:=SN l;unfold kU;rw[Ff];by_cases hc:c=34
  ·rw[ag hc,hc];simp[ih];omega
  rw[ae hc,ae (by simpa using hc)];simp[ih];omega
theorem U2(c:UInt8):∀ {l:ab},0<l.count c->∃a r,l=a++c::r/\a.count c=0/\Lib.indexByte l c=(a.length:Nat)
 | [],h=>by simp at h
 | b::l,h=>by
  by_cases hb:b=c
  ·subst hb;exact⟨[],l,rfl,rfl,by simp[Lib.indexByte]⟩
  rw[Ff,ae (by simpa using hb)]at h;obtain⟨a,r,h1,h2,h3⟩:=U2 c (l:=l) aa;refine⟨b::a,r,by rw[h1];rfl,?_,?_⟩
  ·rw[Ff,h2,ae (by simpa using hb)]
  unfold Lib.indexByte;rw[ae (by simpa using hb),h3,ae (by simp;try omega)];rfl
abbrev Bk(n:Nat)(k:Bool):aC:=[iv (n:Nat),.bool k]
def qW(s:UInt8)(l:ab):Option (bQ×ab):=if l.head?=some 34 then(match eM l.tail with
  | none=>none
  | some p=>some ((p.1,true),p.2))else some (((jf s l).1,false),(jf s l).2)
theorem O5(s:UInt8)(l:ab):kO s l=match qW s l with
  | none=>none
  | some (c,t)=>if t.head?=some 34 then none else some (c,t):=by
 unfold kO qW;split
 ·cases h:eM l.tail with
  | none=>rfl
  | some p =>simp only;rw[ae (Fs (x:=p.1) (t:=p.2) h).2]
 rfl
def rU(x:ab)(o:Option (ab×ab)):Option (ab×ab):=o.map λp=>(x++p.1,p.2)
theorem WH(o:Option (ab×ab)):rU [] o=o:=by cases o<;>rfl
theorem yX(x y:ab)(o:Option (ab×ab)):rU x (rU y o)=rU (x++y) o:=by cases o<;>simp[rU]
theorem Jr{d:UInt8}(h:c≠34):eM (c::d::t)=rU [c] (eM (d::t)):=by rw[eM,ae h];cases eM (d::t)<;>rfl
theorem Xx:∀ {t:ab},t.count 34=0->eM t=none
 | [],_=>rfl
 | [c],h=>by unfold eM;rw[ae];rintro rfl;simp at h
 | c::d::t,h=>by
  rw[Ff]at h;have hc:c≠34:=by rintro rfl;simp at h
  rw[Jr hc,Xx aa];rfl
theorem Xw{a r:ab}(h:a.count 34=0)(hr:r.head?≠some 34):eM (a++34::r)=some (a,r):=by have:=Xz a hr;rwa [SO h]at this
theorem Js:∀ {a r:ab},a.count 34=0->eM (a++34::34::r)=rU (a++[34]) (eM r)
 | [],r,_=>by show eM (34::34::r)=_;rw[eM,ag rfl,ag rfl];cases eM r<;>rfl
 | [c],r,h=>by
  have hc:c≠34:=by rintro rfl;simp at h
  show eM (c::34::34::r)=_;rw[Jr hc];have:=Js (a:=[]) (r:=r) rfl;rw[aL]at this;rw[this,yX];rfl
 | c::d::a,r,h=>by
  rw[Ff]at h;have hc:c≠34:=by rintro rfl;simp at h
  show eM (c::d::(a++34::34::r))=_;rw[Jr hc];have:=Js (a:=d::a) (r:=r) aa;rw[bb]at this;rw[this,yX];rfl
theorem akT(s:UInt8)(l:ab):(la s l = -1/\(jf s l)=(l,[]))\/∃i:Nat,i<l.length/\la s l=i/\jf s l=(l.take i,l.drop i):=by
 have h1:=(FR s l).1;unfold la;generalize jf s l=p at h1 |-;obtain⟨u,v⟩:=p;dsimp only at h1 |-;by_cases hv:v=[]
 ·rw[ag hv];rw[hv,aZ]at h1;exact .inl ⟨rfl,by rw[hv,h1]⟩
 rw[ae hv];have hp:=iC.2 hv;subst h1;exact .inr ⟨u.length,by rw[ak];omega,rfl,ah⟩
theorem oK(n:Nat):(aY n).toNat<128/\aY n≠34/\aY n≠13/\aY n≠10:=by
 unfold aY;split
 ·decide
 split<;>decide
theorem Px(hn:n<3):([34,13,10]:ab).length=3/\([44,59,9]:ab).length=3/\(List.drop ((n:Nat):Int).toNat (List.take (((n:Nat):Int)+1).toNat ([44,59,9]:ab))).length=1/\([34,13,10]:ab)++List.drop ((n:Nat):Int).toNat (List.take (((n:Nat):Int)+1).toNat ([44,59,9]:ab))=[34,13,10,aY n]:=by
 match n,hn with
 | 0,_=>exact⟨rfl,rfl,rfl,rfl⟩
 | 1,_=>exact⟨rfl,rfl,rfl,rfl⟩
 | 2,_=>exact⟨rfl,rfl,rfl,rfl⟩
theorem Lt(hV:Sub V W)(c i:Int):aB 150 [iv c,iv i] W λv w'=>v=kV c i/\Rel W V [] V w':=by have H:=aG hV;refine eV Tryz.func150 8 [0,1,4] ?_;refine H.wg ?_;intro _ _ w H;first|exact H.sx|exact⟨rfl,H.sx⟩
theorem Lm(hV:Sub V W)(n:Nat)(k:Bool):aB 241 [.agg (Bk n k).toArray] W λv w'=>∃(V':ad) (r:Sl),Sub V V'/\Rel W V [] V' w'/\v=r.v/\aF V' r (cy k):=by
 have H:=aG hV;refine eV Tryz.func241 9 [0,1,2,4] ?_;cases k with
 | true =>refine H.wn ?_;intro w b1 H;refine H.wn ?_;intro w b2 H;replace H:=H.cB (c':=([13,10]:ab).flatMap aI) rfl;refine wk ?_;refine Rel.C2 (b:=b2) (l:=[13,10]) Tryz.underlying22 Tryz.underlying5 H rfl ?_;intro V2 w hV2 hx H;refine wk ?_;exact⟨V2,_,hV2,H.sx,rfl,hx⟩
 | false =>refine H.wn ?_;intro w b1 H;refine H.wn ?_;intro w b2 H;replace H:=H.cB (c':=([10]:ab).flatMap aI) rfl;refine wk ?_;refine Rel.C2 (b:=b2) (l:=[10]) Tryz.underlying22 Tryz.underlying5 H rfl ?_;intro V2 w hV2 hx H;refine wk ?_;exact⟨V2,_,hV2,H.sx,rfl,hx⟩
theorem agz(hV:Sub V W)(hT:qS V)(hM:pO V){n:Nat}(hn:n<3)(k:Bool){s:Sl}{l:ab}(hs:aF V s l)(hl:l.length<=100000000):aB 238 [.agg (Bk n k).toArray,s.v] W λv w'=>v=.bool (eR (aY n) l)/\Rel W V [] V w':=by have H:=aG hV;obtain⟨Tm,Tp,hcut,Eh⟩:=Px hn;refine eV Tryz.func238 14 [0,1,2,4] ?_;refine H.wn ?_;intro w b1 H;refine wk ?_;rw[Eh];refine H.us (abM H.data hT hM hs hl (oK n).1) ?_;intro w H;refine wk ?_;first|exact H.sx|exact⟨rfl,H.sx⟩
structure ZU(w0 V0:ad)(own:cx)(b n:Nat)(k:Bool)(V:ad)(o:Option (bQ×ab))(v:aj)(w':ad):Prop where
 ex:∃(V':ad) (c q:Sl) (f g:Bool),Sub V V'/\Rel w0 V0 (.ay b [iv (n:Nat),.bool k,q.v] 336::own) V' w'/\v=.tuple #[c.v,.bool f,.bool g]/\(match o with
  | none=>g=false
  | some x=>g=true/\f=x.1.2/\aF V' c x.1.1/\aF V' q x.2)
theorem wS{s:Sl}(h:aF V s l){i:Nat}(hi:i<=l.length):aF V ⟨bo s.a 0 s.cap 1,i-0,s.cap-0⟩ (l.take i)/\aF V ⟨bo s.a i s.cap 1,s.len-i,s.cap-i⟩ (l.drop i):=by have h1:=h.sub (n:=1) (λ_=>rfl) (a:=0) (b:=i) (Nat.zero_le _) hi;have h2:=h.sub (n:=1) (λ_=>rfl) (a:=i) (b:=l.length) hi (aQ _);rw[fA,<-h.len]at h2;rw[lj]at h1;exact⟨h1,h2⟩
theorem abi{b:Nat}{q:Sl}(H:Rel w0 V0 (.ay b [iv (n:Nat),.bool k,q.v] 336::own) V W)(hT:qS V)(hM:pO V)(hn:n<3)(hq:aF V q l)(hl:l.length<=100000) :
  aB 281 [.pointer (some ⟨b,0,none⟩)] W (ZU w0 V0 own b n k V (qW (aY n) l)):=by
 generalize hw0:W=wz at H;subst hw0;have pj:=hq.len;have Bd:=hq.cap;obtain⟨Tm,Tp,hcut,Eh⟩:=Px hn;refine eV Tryz.func281 102 [0,2,3,4,5,6,7,22,31,49,79] ?_;by_cases hh:l.head?=some 34
 ·obtain⟨t,rfl⟩:∃t,l=34::t:=by
   cases l with
   | nil=>cases hh
   | cons c t=>cases hh;exact⟨t,rfl⟩
  obtain⟨p0,c0⟩:=hq.aR (g:=bv) (i:=0) (λ_=>rfl) ah;change V.cell? _=some (bv 34)at c0;have e0:qW (aY n) (34::t)=match eM t with
   | none=>none
   | some p=>some ((p.1,true),p.2):=by unfold qW;rw[ag gJ];rfl
  rw[e0];rw[aq]at pj hl;have po:=(wS hq (i:=1) ah).2;rw[show List.drop 1 (34::t)=t from rfl]at po;refine wk ?_;replace H:=H.br 5 1;refine aP (S:=Sl×ab×Sl×ab) al [0,7,22,79] (λz=>[(2,z.1.v),(5,z.2.2.1.v)]) (λz w'=>eM t=rU z.2.1 (eM z.2.2.2)/\aF V z.2.2.1 z.2.2.2/\z.2.1.length+z.2.2.2.length<=t.length/\Rel w0 V0 (.row z.1 5 1 (z.2.1.flatMap aI)::.ay b [iv (n:Nat),.bool k,q.v] 336::own) V w') (λz _=>z.2.2.2.length) (⟨none,0,0⟩,[],⟨bo q.a 1 q.cap 1,q.len-1,q.cap-1⟩,t) ?_;conv=>whnf
  refine⟨sB,⟨(WH _).symm,po,ah,H⟩,?_⟩;clear H;rintro⟨cs,x,r,u⟩w⟨hrd,hr,hxl,H⟩;dsimp only at hrd hr hxl H |-;have yx:=hr.len;have cP:=hr.cap;refine wk ((ae2 H.data hr 34).use ?_);rintro v w⟨rfl,K⟩;replace H:=Rel.call H K;simp only[aL]at H;by_cases h0:u.count 34=0
  ·have hno:¬0<=Lib.indexByte u 34:=λh=>by rw[Ih]at h;have:=List.count_pos_iff.2 h;omega
   rw[hrd,Xx h0];generalize Lib.indexByte u 34=z at hno;refine wk ?_;exact⟨V,⟨none,0,0⟩,q,true,false,aS _,H.sx,rfl,rfl⟩
  obtain⟨a,r2,hu,ha,hix⟩:=U2 34 (l:=u) aa;rw[hix];have qk:=ax bU hu;rw[ak,aq]at qk;have rf:=(wS hr (i:=a.length) aa).1;have kY:=(wS hr (i:=a.length+1) aa).2;rw[show u.take a.length=a by rw[hu];simp]at rf;rw[show u.drop (a.length+1)=r2 by rw[hu];simp]at kY;have HC:=kY.len;have adV:=kY.cap;dsimp only at HC adV;refine wk ?_;refine dV 6 [] [0,1,2,3,5,6,7,8,4,9,10] H ?_;intro w H;refine wk ?_;refine Rel.jO H (i:=0) rfl rf aa ?_;intro dE w H;simp only[bH]at H;by_cases he:r2.head?=some 34
  ·obtain⟨r3,rfl⟩:∃t,r2=34::t:=by
    cases r2 with
    | nil=>cases he
    | cons c t=>cases he;exact⟨t,rfl⟩
   rw[aq]at qk HC;obtain⟨p1,c1⟩:=kY.aR (g:=bv) (i:=0) (λ_=>rfl) ah;change V.cell? _=some (bv 34)at c1;have hcd:=(wS kY (i:=1) ah).2;rw[show List.drop 1 (34::r3)=r3 from rfl]at hcd;refine wk ?_;refine dV 10 [] [0,3,4,1,2,5,6] H ?_;intro w H;refine H.wg ?_;intro _ w H;refine Rel.bF (f:=aI) (s:=dE) (l:=x++a) (x:=34) rfl (λ_=>rfl) (by simp[Value.oneCell']) H (by show((x++a).length+1)*1<=_;rw[ak];omega) (by rw[ak];omega) ?_;intro cs3 w H;refine wk ?_;refine⟨sB,(cs3,x++a++[34],⟨bo (bo r.a (a.length+1) r.cap 1) 1 (r.cap-(a.length+1)) 1,r.len-(a.length+1)-1,r.cap-(a.length+1)-1⟩,r3),sB,⟨?_,hcd,?_,H.sx⟩,?_⟩
   ·rw[hrd,hu,Js ha,yX,<-bj]
   ·simp only[ak,aq,aK];omega
   dsimp only;omega
  have aeg:eM t=some (x++a,r2):=by rw[hrd,hu,Xw ha he];rfl
  rw[aeg];cases r2 with
  | nil =>rw[aK]at qk HC;refine H.wg ?_;intro w H;obtain⟨V2,hV2,H,hr1⟩:=Rel.aJ H;refine wk ?_;exact⟨V2,dE,_,true,true,hV2,H,rfl,rfl,rfl,hr1,kY.up hV2⟩
  | cons d r3 =>rw[aq]at qk HC;obtain⟨p1,c1⟩:=kY.aR (g:=bv) (i:=0) (λ_=>rfl) ah;change V.cell? _=some (bv d)at c1;have hd:d.toNat≠34:=λh=>he (by rw[gJ];congr 1;exact bL.1 h);refine H.wg ?_;intro w H;obtain⟨V2,hV2,H,hr1⟩:=Rel.aJ H;refine wk ?_;exact⟨V2,dE,_,true,true,hV2,H,rfl,rfl,rfl,hr1,kY.up hV2⟩
 have e0:qW (aY n) l=some (((jf (aY n) l).1,false),(jf (aY n) l).2):=by unfold qW;rw[ae hh]
 rw[e0];obtain⟨i,hi,MK,jV⟩:∃i:Nat,i<=l.length/\(la (aY n) l=i/\i<l.length\/la (aY n) l = -1/\i=l.length)/\jf (aY n) l=(l.take i,l.drop i):=by
  rcases akT (aY n) l with⟨h1,h2⟩|⟨i,h1,h2,h3⟩
  ·exact⟨l.length,aQ _,.inr ⟨h1,rfl⟩,by rw[h2,fA,List.drop_length]⟩
  exact⟨i,aa,.inl ⟨h2,h1⟩,h3⟩
 rw[jV];obtain⟨rf,kY⟩:=wS hq hi;have hiq:i<=q.len:=by rw[pj];exact hi
 generalize U0:la (aY n) l=za at MK;cases l with
 | nil =>
  have hq0:q.len=0:=pj;refine wk ?_;refine dV 11 [] [0,1,2,3,4,5,6,7,8,9,10,11,12,13,14,15,16,17,18] H ?_;intro w H;refine wk ?_;rw[Eh];refine(ND H.data hT hM hq aa (oK n).1).use ?_;rintro v w⟨rfl,K⟩;replace H:=Rel.call H K;simp only[aL]at H;rw[U0];rcases MK with⟨rfl,dK⟩|⟨rfl,dK⟩
  ·refine wk ?_;refine wk ?_;refine dV 14 [] [0,1,2,3,4,5,6,7,8,9,10,11,12,13,14,15,16] H ?_;intro w H;refine H.wg ?_;intro w H;refine(xz H.data rf (by rw[bg];omega)).use ?_;rintro v w⟨r,rfl,K⟩;replace H:=H.cq K;obtain⟨V2,hV2,H,hr1⟩:=Rel.aJ H;refine wk ?_;exact⟨V2,r,_,false,true,hV2,H,rfl,rfl,rfl,hr1,kY.up hV2⟩
  obtain rfl:i=q.len:=by first|omega|(rw[dK,pj];rfl)
  refine wk ?_;refine wk ?_;refine dV 14 [] [0,1,2,3,4,5,6,7,8,9,10,11,12,13,14,15,16] H ?_;intro w H;refine H.wg ?_;intro w H;refine(xz H.data rf (by rw[bg];omega)).use ?_;rintro v w⟨r,rfl,K⟩;replace H:=H.cq K;obtain⟨V2,hV2,H,hr1⟩:=Rel.aJ H;refine wk ?_;exact⟨V2,r,_,false,true,hV2,H,rfl,rfl,rfl,hr1,kY.up hV2⟩
 | cons d t =>
  obtain⟨p0,c0⟩:=hq.aR (g:=bv) (i:=0) (λ_=>rfl) ah;change V.cell? _=some (bv d)at c0;have hd:d.toNat≠34:=λh=>hh (by rw[gJ];congr 1;exact bL.1 h);rw[aq]at pj;refine wk ?_;refine dV 11 [] [0,1,2,3,4,5,6,7,8,9,10,11,12,13,14,15,16,17,18] H ?_;intro w H;refine wk ?_;rw[Eh];refine(ND H.data hT hM hq aa (oK n).1).use ?_;rintro v w⟨rfl,K⟩;replace H:=Rel.call H K;simp only[aL]at H;rw[U0];rcases MK with⟨rfl,dK⟩|⟨rfl,dK⟩
  ·refine wk ?_;refine wk ?_;refine dV 14 [] [0,1,2,3,4,5,6,7,8,9,10,11,12,13,14,15,16] H ?_;intro w H;refine H.wg ?_;intro w H;refine(xz H.data rf (by rw[bg];omega)).use ?_;rintro v w⟨r,rfl,K⟩;replace H:=H.cq K;obtain⟨V2,hV2,H,hr1⟩:=Rel.aJ H;refine wk ?_;exact⟨V2,r,_,false,true,hV2,H,rfl,rfl,rfl,hr1,kY.up hV2⟩
  obtain rfl:i=q.len:=by first|omega|(rw[dK,pj];rfl)
  refine wk ?_;refine wk ?_;refine dV 14 [] [0,1,2,3,4,5,6,7,8,9,10,11,12,13,14,15,16] H ?_;intro w H;refine H.wg ?_;intro w H;refine(xz H.data rf (by rw[bg];omega)).use ?_;rintro v w⟨r,rfl,K⟩;replace H:=H.cq K;obtain⟨V2,hV2,H,hr1⟩:=Rel.aJ H;refine wk ?_;exact⟨V2,r,_,false,true,hV2,H,rfl,rfl,rfl,hr1,kY.up hV2⟩
abbrev xe(V:ad)(x:Sl)(r:bf):Prop:=RL du lW V x r
theorem jP:∀(V V':ad) (x:Sl) (y:bf),Sub V V'->xe V x y->xe V' x y:=λ_ _ _ _ k ⟨xs,h1,h2⟩=>⟨xs,h1.up k,h2.up (λ_ _ _ _ k h=>h.up k) k⟩
def qT(V:ad)(s:Sl)(T:pT):Prop:=RL du xe V s T
theorem qT.len{V:ad}{s:Sl}{T:pT}(h:qT V s T):s.len=T.length:=by obtain⟨xs,h1,h2⟩:=h;rw[h1.len,h2.len]
theorem qT.nil(V:ad):qT V ⟨none,0,0⟩ []:=⟨[],aA.nil _ _,Pw.nil⟩
abbrev lZ(n:Nat)(k:Bool)(rs qs:Sl)(o:Bool):aC:=[iv (n:Nat),.bool k,rs.v,qs.v,.bool o]
structure aaj(W V:ad)(n:Nat)(k:Bool)(x:Option (List (List bQ)×Bool))(v:aj)(w':ad):Prop where
 ex:∃(V':ad) (m:Nat) (j:Bool) (rs qs:Sl) (o g:Bool),Sub V V'/\Rel W V [] V' w'/\v=.tuple #[.agg (lZ m j rs qs o).toArray,.bool g]/\(match x with
  | none=>g=false
  | some (R,op)=>g=true/\m=n/\j=k/\o=op/\qT V' rs (iF R)/\aA bN V' qs (nz (qn (aY n) 0 R.flatten)))
theorem nM(R:List (List bQ))(r:List bQ):iF (R++[r])=iF R++[r.map Prod.fst]:=by simp[iF]
theorem fZ{α:Type}(R:List (List α))(r:List α):(R++[r]).flatten=R.flatten++r:=ah
theorem PL(k:Bool):1<=(cy k).length/\(cy k).length<=2:=by cases k<;>decide
theorem Mz(h:t.head?=some 34)(h2:t.take (cy k).length=cy k):False:=by
 cases t with
 | nil=>cases h
 | cons c t =>
  cases h;cases k
  ·exact absurd (ax List.head? h2) (by simp[cy])
  exact absurd (ax List.head? h2) (by simp[cy])
theorem Pv(hn:n<3):([44,59,9]:ab)[((n:Nat):Int).toNat]?=some (aY n):=by
 match n,hn with
 | 0,_=>rfl
 | 1,_=>rfl
 | 2,_=>rfl
theorem Ri{c:bQ}(h:qW s l=some (c,t)):c.1.length+t.length<=l.length:=by
 unfold qW at h;split at h
 ·rename_i hh;cases l with
  | nil=>cases hh
  | cons d l =>
   split at h
   ·cases h
   rename_i p hp;cases h;have:=ax bU (Fs (x:=p.1) (t:=p.2) hp).1;rw[ak,aq,SN,List.tail_cons]at this;rw[aq];dsimp only;omega
 cases h;have:=ax bU (FR s l).1;rw[ak]at this;dsimp only;omega
theorem XE(hV:Sub V W)(hT:qS V)(hM:pO V){n:Nat}(hn:n<3)(k:Bool){s:Sl}{l:ab}(hs:aF V s l)(hl:l.length<=1000):aB 232 [s.v,.agg (Bk n k).toArray] W (aaj W V n k (ie (aY n) (cy k) l)):=by
 have H:=aG hV;have hlen:=hs.len;obtain⟨Tm,Tp,hcut,Eh⟩:=Px hn;refine eV Tryz.func232 109 [0,1,3,4,5,6,7,8,9,10,11,12,13,14,26,34,42,60,78,98] ?_;refine H.wn ?_;intro w b3 H;refine H.wn ?_;intro w b4 H;refine wk ?_;refine Pq al ?_;refine H.wn ?_;intro w CL H;refine H.wn ?_;intro w b7 H;refine H.wh ?_;intro w H;replace H:=(H.br 3 1).br 96 1;have H0:Rel W V [.ay CL [iv (n:Nat),.bool k,s.v] 336,.row ⟨none,0,0⟩ 96 1 [],.row ⟨none,0,0⟩ 3 1 [],.ay b7 (lZ n k ⟨none,0,0⟩ ⟨none,0,0⟩ false) 187,.ay b4 (lZ 0 false ⟨none,0,0⟩ ⟨none,0,0⟩ false) 187,.ay b3 (Bk n k) 185] V w:=H.pick;clear H;have H:=H0;clear H0;refine aP (S:=Sl×ab×List (List bQ)×Sl×List Sl×Sl) al [0,1,3,4,6,7] (λz=>[(8,iv (z.2.2.1.flatten.length:Nat))]) (λz w'=>ie (aY n) (cy k) l=sD (aY n) (cy k) z.2.2.1 z.2.1/\z.2.2.1.length+z.2.1.length<=l.length/\z.2.2.1.flatten.length+z.2.1.length<=l.length/\∃V2,Sub V V2/\aF V2 z.1 z.2.1/\Pw xe V2 z.2.2.2.2.1 (iF z.2.2.1)/\Rel W V [.ay CL [iv (n:Nat),.bool k,z.1.v] 336,.row z.2.2.2.1 96 1 (z.2.2.2.2.1.flatMap du),.row z.2.2.2.2.2 3 1 ((nz (qn (aY n) 0 z.2.2.1.flatten)).flatMap bN),.ay b7 (lZ n k z.2.2.2.1 z.2.2.2.2.2 false) 187,.ay b4 (lZ 0 false ⟨none,0,0⟩ ⟨none,0,0⟩ false) 187,.ay b3 (Bk n k) 185] V2 w') (λz _=>z.2.1.length) (s,l,[],⟨none,0,0⟩,[],⟨none,0,0⟩) ?_;conv=>whnf
 refine⟨sB,⟨rfl,ah,ah,V,aS _,hs,Pw.nil,H⟩,?_⟩;clear H;rintro⟨q,u,R,rs,hh,qs⟩w⟨hrd,qc,Dx,V2,hV2,hq,hP,H⟩;dsimp only at hrd qc Dx hq hP H |-;have pj:=hq.len;have A4:=hP.len;rw[aW]at A4;by_cases hu:u.length=0
 ·have k9:u=[]:=dt hu;have e:ie (aY n) (cy k) l=some (R,false):=by rw[hrd,k9];rfl
  rw[e];have H1:=H.lJ;clear H;obtain⟨V3,aw,H,bI⟩:=Rel.aJ H1;have H2:=H.lJ;clear H H1;obtain⟨V4,ar,H,gm⟩:=Rel.aJ H2;clear H2;refine H.wg ?_;intro w H;exact⟨V4,n,k,rs,qs,false,true,(hV2.trans aw).trans ar,H.sx,rfl,rfl,rfl,rfl,rfl,⟨hh,bI.up ar,hP.up jP (aw.trans ar)⟩,gm⟩
 refine wk ?_;replace H:=H.br 22 1;have H0:=H.lJ;clear H;have H:=H0;clear H0;have e:ie (aY n) (cy k) l=lp (aY n) (cy k) R [] u:=by rw[hrd,sD,ae (λh=>hu (by rw[h];rfl))]
 clear hrd;refine aP (S:=Sl×ab×List bQ×Sl×List Sl×Sl) al [0,1,3,4,6,7,26] (λz=>[(8,iv ((R.flatten.length+z.2.2.1.length:Nat):Int)),(9,z.2.2.2.1.v)]) (λz w'=>ie (aY n) (cy k) l=lp (aY n) (cy k) R z.2.2.1 z.2.1/\z.2.1.length<=u.length/\R.flatten.length+z.2.2.1.length+z.2.1.length<=l.length/\∃V3,Sub V V3/\aF V3 z.1 z.2.1/\Pw xe V3 hh (iF R)/\Pw lW V3 z.2.2.2.2.1 (z.2.2.1.map Prod.fst)/\Rel W V [.ay CL [iv (n:Nat),.bool k,z.1.v] 336,.row z.2.2.2.1 22 1 (z.2.2.2.2.1.flatMap du),.row rs 96 1 (hh.flatMap du),.row z.2.2.2.2.2 3 1 ((nz (qn (aY n) 0 (R.flatten++z.2.2.1))).flatMap bN),.ay b7 (lZ n k rs z.2.2.2.2.2 false) 187,.ay b4 (lZ 0 false ⟨none,0,0⟩ ⟨none,0,0⟩ false) 187,.ay b3 (Bk n k) 185] V3 w') (λz _=>z.2.1.length) (q,u,[],⟨none,0,0⟩,[],qs) ?_;conv=>whnf
 refine⟨sB,⟨e,aQ _,by simpa using Dx,V2,hV2,hq,hP,Pw.nil,by rw[aZ];exact H⟩,?_⟩;clear H e hq hP hV2 pj V2;rintro⟨q,u2,r,cs,gs,qs⟩w⟨hrd,qk,oh,V2,hV2,hq,hP,hG,H⟩;dsimp only at hrd qk oh hq hP hG H |-;refine wk ?_;refine(abi H (Ck hT hV2) (hM.up hV2) hn hq aa).use ?_;rintro v w⟨V3,c,q2,f,g,aw,H2,rfl,hres⟩;clear H;have H:=H2;clear H2;have bu:=hV2.trans aw;have rD:=hG.len;rw[aW]at rD;cases hc:qW (aY n) u2 with
 | none =>
  rw[hc]at hres;obtain rfl:=hres;have e:ie (aY n) (cy k) l=none:=by rw[hrd,Fp (by rw[O5,hc])]
  rw[e];refine H.wg ?_;intro w H;exact⟨V3,0,false,⟨none,0,0⟩,⟨none,0,0⟩,false,false,bu,H.sx,rfl,rfl⟩
 | some y =>
  obtain⟨⟨x,f⟩,t⟩:=y;rw[hc]at hres;obtain⟨rfl,rfl,pd,ny⟩:=hres;dsimp only at pd ny |-;have Ie:=Ri hc;dsimp only at Ie;have cP:kO (aY n) u2=if t.head?=some 34 then none else some ((x,f),t):=by rw[O5,hc]
  have ff:=O2 (s:=aY n) (c:=(x,f)) (r:=R.flatten++r) (k:=0);rw[bj,dR,ak]at ff;dsimp only at ff;have cD:=OZ (s:=aY n) (r:=R.flatten++r) (k:=0);rw[ak]at cD;have hnl:(nz (qn (aY n) 0 (R.flatten++r))).length=(qn (aY n) 0 (R.flatten++r)).length:=aW _;have xQ:Pw lW V3 (gs++[c]) ((r++[(x,f)]).map Prod.fst):=by rw[dU];exact(hG.up (λ_ _ _ _ k h=>h.up k) aw).snoc pd
  have hP2:=hP.up jP aw;have Nc:=ny.len;cases f with
  | false =>
   rw[qw,ae ai,aZ]at ff;rw[<-ff]at H;refine H.wg ?_;intro _ w H;refine Rel.eH (f:=du) (s:=cs) (l:=gs) (x:=c) rfl (λ_=>rfl) (by simp[Value.oneCell']) H (by show(gs.length+1)*24<=_;omega) aa ?_;intro dE w H;have iL:Pw lW V3 (gs++[c]) ((r++[(x,false)]).map Prod.fst):=xQ;by_cases ht0:t.length=0
   ·have ht:t=[]:=dt ht0;have e:ie (aY n) (cy k) l=some (R++[r++[(x,false)]],true):=by rw[hrd,B5 (by rw[cP,ht];rfl)]
    rw[e];have H1:=H.lJ;clear H;obtain⟨V4,ar,H,hcs⟩:=Rel.aJ H1;clear H1;refine H.wn ?_;intro w Q2 H;refine wk ?_;refine Rel.eH (f:=du) (s:=rs) (l:=hh) (x:=dE) rfl (λ_=>rfl) (by simp[Value.oneCell']) H (by show(hh.length+1)*24<=_;omega) aa ?_;intro dn w H;refine H.wg ?_;intro _ _ w H;have H1:=H.lJ;clear H;obtain⟨V5,aN,H,bI⟩:=Rel.aJ H1;have H2:=H.lJ;clear H H1;obtain⟨V6,bC,H,gm⟩:=Rel.aJ H2;refine⟨V6,n,k,dn,qs,true,true,((bu.trans ar).trans aN).trans bC,H.sx,rfl,rfl,rfl,rfl,rfl,⟨hh++[dE],bI.up bC,?_⟩,?_⟩
    ·rw[nM];exact(hP2.up jP ((ar.trans aN).trans bC)).snoc ⟨gs++[c],hcs.up (aN.trans bC),iL.up (λ_ _ _ _ k h=>h.up k) ((ar.trans aN).trans bC)⟩
    rw[fZ];exact gm
   refine wk ?_;refine dV 15 [5] [0,1,2,3,4,5,6,7,8,9,10,11] H ?_;intro w H;refine wk ((Lm H.data n k).use ?_);rintro v w⟨V4,er,ar,K,rfl,DQ⟩;replace H:=Rel.call H K;simp only[aL]at H;refine wk ((C5 H.data (ny.up ar) DQ).use ?_);rintro v w⟨⟨Fl,rfl,D8⟩,K⟩;replace H:=Rel.call H K;simp only[aL]at H;have hel:=PL k;by_cases hpre:t.take (cy k).length=cy k
   ·rw[bw hpre];have htl:=ax bU hpre;rw[bg]at htl;have dy:t.head?≠some 34:=λh=>Mz h hpre;have e:ie (aY n) (cy k) l=sD (aY n) (cy k) (R++[r++[(x,false)]]) (t.drop (cy k).length):=by rw[hrd,u6 (kA k) (by rw[cP,ae dy]) hpre]
    have H1:=H.lJ;clear H;obtain⟨V5,aN,H,hcs⟩:=Rel.aJ H1;clear H1;refine H.wn ?_;intro w KJ H;refine wk ?_;refine Rel.eH (f:=du) (s:=rs) (l:=hh) (x:=dE) rfl (λ_=>rfl) (by simp[Value.oneCell']) H (by show(hh.length+1)*24<=_;omega) aa ?_;intro dn w H;refine H.wg ?_;intro _ w H;refine⟨sB,(Fl,t.drop (cy k).length,R++[r++[(x,false)]],dn,hh++[dE],qs),⟨?_,trivial⟩,⟨e,?_,?_,V5,(bu.trans ar).trans aN,(D8 hpre).up aN,?_,?_⟩,?_⟩
    ·show some (bO .i64 _)=some (.int .i64 _);congr 2;simp only[fZ,ak,aq,aK];omega
    ·simp only[ak,aq,aK,aU];omega
    ·simp only[fZ,ak,aq,aK,aU];omega
    ·rw[nM];exact(hP2.up jP (ar.trans aN)).snoc ⟨gs++[c],hcs,iL.up (λ_ _ _ _ k h=>h.up k) (ar.trans aN)⟩
    ·dsimp only;rw[fZ];exact H
    simp only[aU];omega
   rw[bA hpre];obtain⟨d,t2,rfl⟩:∃d t2,t=d::t2:=by
    cases t with
    | nil=>exact absurd rfl ht0
    | cons d t2=>exact⟨d,t2,rfl⟩
   rw[aq]at Nc Ie;obtain⟨p1,c1⟩:=(ny.up ar).aR (g:=bv) (i:=0) (λ_=>rfl) ah;change V4.cell? _=some (bv d)at c1;have hgs:=Pv hn;by_cases hd:d=aY n
   ·subst hd;have DJ:aY n≠34:=(oK n).2.1;have e:ie (aY n) (cy k) l=lp (aY n) (cy k) R (r++[(x,false)]) t2:=by rw[hrd,B6 (kA k) (by rw[cP,ae (by rw[gJ];simpa using DJ)]) hpre]
    have hcd:=(wS (ny.up ar) (i:=1) ah).2;rw[show List.drop 1 (aY n::t2)=t2 from rfl]at hcd;refine wk ?_;refine dV 18 [] [0,1,2,3,4,5,6,7,8,9] H ?_;intro w H;refine H.wg ?_;intro w H;refine⟨sB,(⟨bo q2.a 1 q2.cap 1,q2.len-1,q2.cap-1⟩,t2,r++[(x,false)],dE,gs++[c],qs),⟨?_,rfl,trivial⟩,⟨e,?_,?_,V4,bu.trans ar,hcd,hP2.up jP ar,iL.up (λ_ _ _ _ k h=>h.up k) ar,H⟩,?_⟩
    ·show some (bO .i64 _)=some (.int .i64 _);congr 2;simp only[ak,aq,aK];omega
    ·simp only;omega
    ·simp only[ak,aq,aK];omega
    simp only;omega
   have AZ:d.toNat≠(aY n).toNat:=λh=>hd (bL.1 h);have e:ie (aY n) (cy k) l=none:=by
    rw[hrd];by_cases dy:(d::t2).head?=some 34
    ·exact Fp (by rw[cP,ag dy])
    exact nH (by rw[cP,ae dy]) ah hpre (by rw[gJ];simpa using hd)
   rw[e];refine wk ?_;refine dV 18 [] [0,1,2,3,4,5,6,7,8,9] H ?_;intro w H;refine H.wg ?_;intro w H;exact⟨V4,0,false,⟨none,0,0⟩,⟨none,0,0⟩,false,false,bu.trans ar,H.sx,rfl,rfl⟩
  | true =>
   refine wk ?_;refine(agz H.data (Ck hT bu) (hM.up bu) hn k pd aa).use ?_;rintro v w⟨rfl,K⟩;replace H:=Rel.call H K;simp only[aL]at H;cases hN:eR (aY n) x with
   | true =>
    rw[hN,Bool.not_true,Bool.and_false,ae ai,aZ]at ff;rw[<-ff]at H;refine H.wg ?_;intro _ w H;refine Rel.eH (f:=du) (s:=cs) (l:=gs) (x:=c) rfl (λ_=>rfl) (by simp[Value.oneCell']) H (by show(gs.length+1)*24<=_;omega) aa ?_;intro dE w H;have iL:Pw lW V3 (gs++[c]) ((r++[(x,true)]).map Prod.fst):=xQ;by_cases ht0:t.length=0
    ·have ht:t=[]:=dt ht0;have e:ie (aY n) (cy k) l=some (R++[r++[(x,true)]],true):=by rw[hrd,B5 (by rw[cP,ht];rfl)]
     rw[e];have H1:=H.lJ;clear H;obtain⟨V4,ar,H,hcs⟩:=Rel.aJ H1;clear H1;refine H.wn ?_;intro w Q2 H;refine wk ?_;refine Rel.eH (f:=du) (s:=rs) (l:=hh) (x:=dE) rfl (λ_=>rfl) (by simp[Value.oneCell']) H (by show(hh.length+1)*24<=_;omega) aa ?_;intro dn w H;refine H.wg ?_;intro _ _ w H;have H1:=H.lJ;clear H;obtain⟨V5,aN,H,bI⟩:=Rel.aJ H1;have H2:=H.lJ;clear H H1;obtain⟨V6,bC,H,gm⟩:=Rel.aJ H2;refine⟨V6,n,k,dn,qs,true,true,((bu.trans ar).trans aN).trans bC,H.sx,rfl,rfl,rfl,rfl,rfl,⟨hh++[dE],bI.up bC,?_⟩,?_⟩
     ·rw[nM];exact(hP2.up jP ((ar.trans aN).trans bC)).snoc ⟨gs++[c],hcs.up (aN.trans bC),iL.up (λ_ _ _ _ k h=>h.up k) ((ar.trans aN).trans bC)⟩
     rw[fZ];exact gm
    refine wk ?_;refine dV 15 [5] [0,1,2,3,4,5,6,7,8,9,10,11] H ?_;intro w H;refine wk ((Lm H.data n k).use ?_);rintro v w⟨V4,er,ar,K,rfl,DQ⟩;replace H:=Rel.call H K;simp only[aL]at H;refine wk ((C5 H.data (ny.up ar) DQ).use ?_);rintro v w⟨⟨Fl,rfl,D8⟩,K⟩;replace H:=Rel.call H K;simp only[aL]at H;have hel:=PL k;by_cases hpre:t.take (cy k).length=cy k
    ·rw[bw hpre];have htl:=ax bU hpre;rw[bg]at htl;have dy:t.head?≠some 34:=λh=>Mz h hpre;have e:ie (aY n) (cy k) l=sD (aY n) (cy k) (R++[r++[(x,true)]]) (t.drop (cy k).length):=by rw[hrd,u6 (kA k) (by rw[cP,ae dy]) hpre]
     have H1:=H.lJ;clear H;obtain⟨V5,aN,H,hcs⟩:=Rel.aJ H1;clear H1;refine H.wn ?_;intro w KJ H;refine wk ?_;refine Rel.eH (f:=du) (s:=rs) (l:=hh) (x:=dE) rfl (λ_=>rfl) (by simp[Value.oneCell']) H (by show(hh.length+1)*24<=_;omega) aa ?_;intro dn w H;refine H.wg ?_;intro _ w H;refine⟨sB,(Fl,t.drop (cy k).length,R++[r++[(x,true)]],dn,hh++[dE],qs),⟨?_,trivial⟩,⟨e,?_,?_,V5,(bu.trans ar).trans aN,(D8 hpre).up aN,?_,?_⟩,?_⟩
     ·show some (bO .i64 _)=some (.int .i64 _);congr 2;simp only[fZ,ak,aq,aK];omega
     ·simp only[ak,aq,aK,aU];omega
     ·simp only[fZ,ak,aq,aK,aU];omega
     ·rw[nM];exact(hP2.up jP (ar.trans aN)).snoc ⟨gs++[c],hcs,iL.up (λ_ _ _ _ k h=>h.up k) (ar.trans aN)⟩
     ·dsimp only;rw[fZ];exact H
     simp only[aU];omega
    rw[bA hpre];obtain⟨d,t2,rfl⟩:∃d t2,t=d::t2:=by
     cases t with
     | nil=>exact absurd rfl ht0
     | cons d t2=>exact⟨d,t2,rfl⟩
    rw[aq]at Nc Ie;obtain⟨p1,c1⟩:=(ny.up ar).aR (g:=bv) (i:=0) (λ_=>rfl) ah;change V4.cell? _=some (bv d)at c1;have hgs:=Pv hn;by_cases hd:d=aY n
    ·subst hd;have DJ:aY n≠34:=(oK n).2.1;have e:ie (aY n) (cy k) l=lp (aY n) (cy k) R (r++[(x,true)]) t2:=by rw[hrd,B6 (kA k) (by rw[cP,ae (by rw[gJ];simpa using DJ)]) hpre]
     have hcd:=(wS (ny.up ar) (i:=1) ah).2;rw[show List.drop 1 (aY n::t2)=t2 from rfl]at hcd;refine wk ?_;refine dV 18 [] [0,1,2,3,4,5,6,7,8,9] H ?_;intro w H;refine H.wg ?_;intro w H;refine⟨sB,(⟨bo q2.a 1 q2.cap 1,q2.len-1,q2.cap-1⟩,t2,r++[(x,true)],dE,gs++[c],qs),⟨?_,rfl,trivial⟩,⟨e,?_,?_,V4,bu.trans ar,hcd,hP2.up jP ar,iL.up (λ_ _ _ _ k h=>h.up k) ar,H⟩,?_⟩
     ·show some (bO .i64 _)=some (.int .i64 _);congr 2;simp only[ak,aq,aK];omega
     ·simp only;omega
     ·simp only[ak,aq,aK];omega
     simp only;omega
    have AZ:d.toNat≠(aY n).toNat:=λh=>hd (bL.1 h);have e:ie (aY n) (cy k) l=none:=by
     rw[hrd];by_cases dy:(d::t2).head?=some 34
     ·exact Fp (by rw[cP,ag dy])
     exact nH (by rw[cP,ae dy]) ah hpre (by rw[gJ];simpa using hd)
    rw[e];refine wk ?_;refine dV 18 [] [0,1,2,3,4,5,6,7,8,9] H ?_;intro w H;refine H.wg ?_;intro w H;exact⟨V4,0,false,⟨none,0,0⟩,⟨none,0,0⟩,false,false,bu.trans ar,H.sx,rfl,rfl⟩
   | false =>
    rw[hN,Bool.not_false,OO,ag rfl]at ff;refine H.wn ?_;intro w b46 H;refine wk ?_;refine Rel.xk (f:=bN) (s:=qs) (l:=nz (qn (aY n) 0 (R.flatten++r))) (x:=((R.flatten.length+r.length:Nat):Int)) rfl (λ_=>rfl) (by simp[Value.oneCell']) H (by rw[hnl];show(_+1)*8<=_;omega) (by rw[hnl];omega) ?_;intro qC w H;rw[show nz (qn (aY n) 0 (R.flatten++r))++[((R.flatten.length+r.length:Nat):Int)]=nz (qn (aY n) 0 (R.flatten++(r++[(x,true)])))by rw[ff];simp]at H;refine H.wg ?_;intro _ _ w H;refine Rel.eH (f:=du) (s:=cs) (l:=gs) (x:=c) rfl (λ_=>rfl) (by simp[Value.oneCell']) H (by show(gs.length+1)*24<=_;omega) aa ?_;intro dE w H;have iL:Pw lW V3 (gs++[c]) ((r++[(x,true)]).map Prod.fst):=xQ;by_cases ht0:t.length=0
    ·have ht:t=[]:=dt ht0;have e:ie (aY n) (cy k) l=some (R++[r++[(x,true)]],true):=by rw[hrd,B5 (by rw[cP,ht];rfl)]
     rw[e];have H1:=H.lJ;clear H;obtain⟨V4,ar,H,hcs⟩:=Rel.aJ H1;clear H1;refine H.wn ?_;intro w Q2 H;refine wk ?_;refine Rel.eH (f:=du) (s:=rs) (l:=hh) (x:=dE) rfl (λ_=>rfl) (by simp[Value.oneCell']) H (by show(hh.length+1)*24<=_;omega) aa ?_;intro dn w H;refine H.wg ?_;intro _ _ w H;have H1:=H.lJ;clear H;obtain⟨V5,aN,H,bI⟩:=Rel.aJ H1;have H2:=H.lJ;clear H H1;obtain⟨V6,bC,H,gm⟩:=Rel.aJ H2;refine⟨V6,n,k,dn,qC,true,true,((bu.trans ar).trans aN).trans bC,H.sx,rfl,rfl,rfl,rfl,rfl,⟨hh++[dE],bI.up bC,?_⟩,?_⟩
     ·rw[nM];exact(hP2.up jP ((ar.trans aN).trans bC)).snoc ⟨gs++[c],hcs.up (aN.trans bC),iL.up (λ_ _ _ _ k h=>h.up k) ((ar.trans aN).trans bC)⟩
     rw[fZ];exact gm
    refine wk ?_;refine dV 15 [5] [0,1,2,3,4,5,6,7,8,9,10,11] H ?_;intro w H;refine wk ((Lm H.data n k).use ?_);rintro v w⟨V4,er,ar,K,rfl,DQ⟩;replace H:=Rel.call H K;simp only[aL]at H;refine wk ((C5 H.data (ny.up ar) DQ).use ?_);rintro v w⟨⟨Fl,rfl,D8⟩,K⟩;replace H:=Rel.call H K;simp only[aL]at H;have hel:=PL k;by_cases hpre:t.take (cy k).length=cy k
    ·rw[bw hpre];have htl:=ax bU hpre;rw[bg]at htl;have dy:t.head?≠some 34:=λh=>Mz h hpre;have e:ie (aY n) (cy k) l=sD (aY n) (cy k) (R++[r++[(x,true)]]) (t.drop (cy k).length):=by rw[hrd,u6 (kA k) (by rw[cP,ae dy]) hpre]
     have H1:=H.lJ;clear H;obtain⟨V5,aN,H,hcs⟩:=Rel.aJ H1;clear H1;refine H.wn ?_;intro w KJ H;refine wk ?_;refine Rel.eH (f:=du) (s:=rs) (l:=hh) (x:=dE) rfl (λ_=>rfl) (by simp[Value.oneCell']) H (by show(hh.length+1)*24<=_;omega) aa ?_;intro dn w H;refine H.wg ?_;intro _ w H;refine⟨sB,(Fl,t.drop (cy k).length,R++[r++[(x,true)]],dn,hh++[dE],qC),⟨?_,trivial⟩,⟨e,?_,?_,V5,(bu.trans ar).trans aN,(D8 hpre).up aN,?_,?_⟩,?_⟩
     ·show some (bO .i64 _)=some (.int .i64 _);congr 2;simp only[fZ,ak,aq,aK];omega
     ·simp only[ak,aq,aK,aU];omega
     ·simp only[fZ,ak,aq,aK,aU];omega
     ·rw[nM];exact(hP2.up jP (ar.trans aN)).snoc ⟨gs++[c],hcs,iL.up (λ_ _ _ _ k h=>h.up k) (ar.trans aN)⟩
     ·dsimp only;rw[fZ];exact H
     simp only[aU];omega
    rw[bA hpre];obtain⟨d,t2,rfl⟩:∃d t2,t=d::t2:=by
     cases t with
     | nil=>exact absurd rfl ht0
     | cons d t2=>exact⟨d,t2,rfl⟩
    rw[aq]at Nc Ie;obtain⟨p1,c1⟩:=(ny.up ar).aR (g:=bv) (i:=0) (λ_=>rfl) ah;change V4.cell? _=some (bv d)at c1;have hgs:=Pv hn;by_cases hd:d=aY n
    ·subst hd;have DJ:aY n≠34:=(oK n).2.1;have e:ie (aY n) (cy k) l=lp (aY n) (cy k) R (r++[(x,true)]) t2:=by rw[hrd,B6 (kA k) (by rw[cP,ae (by rw[gJ];simpa using DJ)]) hpre]
     have hcd:=(wS (ny.up ar) (i:=1) ah).2;rw[show List.drop 1 (aY n::t2)=t2 from rfl]at hcd;refine wk ?_;refine dV 18 [] [0,1,2,3,4,5,6,7,8,9] H ?_;intro w H;refine H.wg ?_;intro w H;refine⟨sB,(⟨bo q2.a 1 q2.cap 1,q2.len-1,q2.cap-1⟩,t2,r++[(x,true)],dE,gs++[c],qC),⟨?_,rfl,trivial⟩,⟨e,?_,?_,V4,bu.trans ar,hcd,hP2.up jP ar,iL.up (λ_ _ _ _ k h=>h.up k) ar,H⟩,?_⟩
     ·show some (bO .i64 _)=some (.int .i64 _);congr 2;simp only[ak,aq,aK];omega
     ·simp only;omega
     ·simp only[ak,aq,aK];omega
     simp only;omega
    have AZ:d.toNat≠(aY n).toNat:=λh=>hd (bL.1 h);have e:ie (aY n) (cy k) l=none:=by
     rw[hrd];by_cases dy:(d::t2).head?=some 34
     ·exact Fp (by rw[cP,ag dy])
     exact nH (by rw[cP,ae dy]) ah hpre (by rw[gJ];simpa using hd)
    rw[e];refine wk ?_;refine dV 18 [] [0,1,2,3,4,5,6,7,8,9] H ?_;intro w H;refine H.wg ?_;intro w H;exact⟨V4,0,false,⟨none,0,0⟩,⟨none,0,0⟩,false,false,bu.trans ar,H.sx,rfl,rfl⟩
theorem JZ{l:ab}{x:List (List bQ)×Bool}:∀ {n i:Nat},n<=6->6-n<=i->i<6->(∀j,6-n<=j->j<i->fD j l=none)->fD i l=some x->wX l n=some (i,x)
 | 0,i,_,h1,h2,_,_=>by omega
 | n+1,i,hn,h1,h2,h3,h4=>by
  unfold wX;by_cases e:i=5-n
  ·rw[<-e,h4]
  rw[h3 (5-n) aa aa];exact JZ aa aa h2 (λj h5 h6=>h3 j aa h6) h4
theorem PQ{l:ab}:∀ {n:Nat},n<=6->(∀j,6-n<=j->j<6->fD j l=none)->wX l n=none
 | 0,_,_=>rfl
 | n+1,hn,h=>by unfold wX;rw[h (5-n) aa aa];exact PQ aa λj h1 h2=>h j aa h2
theorem Yu(hV:Sub V W)(n:Nat)(k o:Bool){rs qs:Sl}{R:List (List bQ)}(hs:qT V rs (iF R))(hl:R.length<=100000):aB 233 [.agg (lZ n k rs qs o).toArray] W λv w'=>v=.bool (lz k R o)/\Rel W V [] V w':=by
 have H:=aG hV;have hlen:=hs.len;rw[aW]at hlen;refine eV Tryz.func233 32 [0,1,2] ?_;cases R with
 | nil =>
  have qh:rs.len=0:=hlen;rw[show lz k [] o=false by simp[lz]];clear hl hs hlen;refine H.wn ?_;intro w b1 H;conv=>whnf
  refine H.ce ?_;conv=>whnf
  refine cF ?_;conv=>whnf
  exact⟨rfl,H.sx⟩
 | cons r R =>
  rw[aq]at hlen hl;obtain⟨xs,h1,h2⟩:=hs;have L5:=h2.len;rw[aW,aq]at L5;obtain⟨p0,c0⟩:=h1.aR (g:=λx:Sl=>x.v) (λ_=>rfl) (i:=0) aa;obtain⟨gs,g1,g2⟩:=h2.all 0 (xs[0]'aa) (r.map Prod.fst) (bz _) rfl;have LQ:=g1.len;have LR:=g2.len;rw[aW]at LR;obtain⟨x,hx⟩:∃x,x=xs[0]'aa:=⟨_,rfl⟩
  rw[<-hx]at c0 LQ;have e:lz k (r::R) o=(decide (2<=r.length)&&(!k||decide (1<(r::R).length)||!o)):=by simp[lz]
  rw[e,aq];by_cases hr:2<=r.length
  ·rw[bw hr,Bool.true_and];cases k with
   | false =>refine H.wn ?_;intro w b1 H;refine wk ?_;first|exact H.sx|exact⟨rfl,H.sx⟩
   | true =>
    by_cases hR:1<R.length+1
    ·rw[bw hR];refine H.wn ?_;intro w b1 H;refine wk ?_;first|exact H.sx|exact⟨rfl,H.sx⟩
    rw[bA hR];cases o with
    | true =>refine H.wn ?_;intro w b1 H;refine wk ?_;first|exact H.sx|exact⟨rfl,H.sx⟩
    | false =>refine H.wn ?_;intro w b1 H;refine wk ?_;first|exact H.sx|exact⟨rfl,H.sx⟩
  rw[bA hr,qw];refine H.wn ?_;intro w b1 H;refine wk ?_;first|exact H.sx|exact⟨rfl,H.sx⟩
structure Z8(W V:ad)(x:Option (Nat×List (List bQ)×Bool))(v:aj)(w':ad):Prop where
 ex:∃(V':ad) (m:Nat) (j:Bool) (rs qs:Sl) (o g:Bool),Sub V V'/\Rel W V [] V' w'/\v=.tuple #[.agg (lZ m j rs qs o).toArray,.bool g]/\(match x with
  | none=>g=false/\rs=⟨none,0,0⟩
  | some y=>g=true/\m=y.1/2/\j=dx y.1/\o=y.2.2/\qT V' rs (iF y.2.1)/\aA bN V' qs (nz (qn (aY (y.1/2)) 0 y.2.1.flatten)))
theorem ac4(hV:Sub V W)(hT:qS V)(hM:pO V){s:Sl}{l:ab}(hs:aF V s l)(hl:l.length<=1000):aB 151 [s.v] W (Z8 W V (tO l)):=by
 have H:=aG hV;refine eV Tryz.func151 35 [0,2,3,4,6,7,8,9,10,12,13,14,15,30] ?_;refine H.wn ?_;intro w b2 H;refine wk ?_;refine aP (S:=Nat) al [0,2] (λsp=>[(9,iv sp)]) (λsp w'=>sp<=3/\(∀j,j<2*sp->fD j l=none)/\∃V2,Sub V V2/\Rel W V [.ay b2 (lZ 0 false ⟨none,0,0⟩ ⟨none,0,0⟩ false) 187] V2 w') (λsp _=>3-sp) 0 ?_;conv=>whnf
 refine⟨sB,⟨aa,λj h=>by omega,V,aS _,H⟩,?_⟩;clear H;rintro sp w⟨ane,hno,V2,hV2,H⟩;by_cases hsp:sp<3;rotate_left
 ·have e:tO l=none:=PQ (aQ _) λj _ h=>hno j aa;rw[e];refine H.wg ?_;intro w H;exact⟨V2,0,false,⟨none,0,0⟩,⟨none,0,0⟩,false,false,hV2,H.sx,rfl,rfl,rfl⟩
 refine H.wn ?_;clear H;intro w ud H;obtain⟨V4,ar,H2,hb⟩:=H.cU;clear H;have H:=H2;clear H2;have hB:∀ {V':ad},Sub V4 V'->dN V' ud [.bool false,.bool true] 4:=λh=>h.cS _ _ _ _ hb;refine wk ?_;refine aP (S:=Nat) al [0,2,4,9,10,12,13] (λj=>[(14,iv j)]) (λj w'=>j<=2/\(∀i,i<2*sp+j->fD i l=none)/\∃V2,Sub V V2/\Sub V4 V2/\Rel W V [.ay b2 (lZ 0 false ⟨none,0,0⟩ ⟨none,0,0⟩ false) 187] V2 w') (λj _=>2-j) 0 ?_;conv=>whnf
 refine⟨sB,⟨aa,λi h=>hno i aa,V4,hV2.trans ar,aS _,H⟩,?_⟩;clear H hV2 hno ar V2;rintro j w⟨hj,hno,V2,hV2,DA,H⟩;have hb2:=hB DA;have cb0:=hb2.cS (i:=0) rfl;have cb1:=hb2.cS (i:=1) rfl;obtain rfl|rfl|rfl:j=0\/j=1\/j=2:=aa
 ·have d2:(2*sp)/2=sp:=aa;have d3:dx (2*sp)=false:=by unfold dx;exact bA aa
  refine wk ((XE H.data (Ck hT hV2) (hM.up hV2) (n:=sp) hsp false (hs.up hV2) hl).use ?_);rintro v w⟨V3,m,jj,rs,qs,o,g,aw,K,rfl,hres⟩;replace H:=Rel.call H K;simp only[aL]at H;have bu:=hV2.trans aw;refine H.wn ?_;intro w b7 H;cases hr:ie (aY sp) (cy false) l with
  | none =>
   rw[hr]at hres;obtain rfl:=hres;have hone:fD (2*sp) l=none:=by unfold fD;rw[d2,d3,hr]
   refine H.wg ?_;intro w H;exact⟨sB,1,sB,⟨aa,λi h=>if e:i=2*sp then e▸hone else hno i aa,V3,bu,DA.trans aw,H.sx⟩,aa⟩
  | some y =>
   obtain⟨R,op⟩:=y;rw[hr]at hres;obtain⟨rfl,hm,rfl,rfl,bI,gm⟩:=hres;obtain rfl:sp=m:=hm.symm;obtain⟨q1,q2,q3⟩:=xK (s:=aY sp) (kA false) o R;rw[<-(B3 hr).1]at q1 q3;refine H.wg ?_;intro w H;refine(Yu H.data sp false o (qs:=qs) bI aa).use ?_;rintro v w⟨rfl,K⟩;replace H:=Rel.call H K;simp only[aL]at H;cases fw:lz false R o with
   | true =>
    have hone:fD (2*sp) l=some (R,o):=by unfold fD;rw[d2,d3,hr];simp only;rw[ag fw]
    have e:tO l=some (2*sp,R,o):=JZ aa aa aa (λj _ h=>hno j aa) hone;rw[e];refine H.wg ?_;intro w H;exact⟨V3,sp,false,rs,qs,o,true,bu,H.sx,rfl,rfl,by rw[d2],by rw[d3],rfl,bI,by rw[d2];exact gm⟩
   | false =>
    have hone:fD (2*sp) l=none:=by unfold fD;rw[d2,d3,hr];simp only;rw[ae (by rw[fw];decide)]
    refine wk ?_;exact⟨sB,1,sB,⟨aa,λi h=>if e:i=2*sp then e▸hone else hno i aa,V3,bu,DA.trans aw,H.sx⟩,aa⟩
 ·have d2:(2*sp+1)/2=sp:=aa;have d3:dx (2*sp+1)=true:=by unfold dx;exact bw aa
  refine wk ((XE H.data (Ck hT hV2) (hM.up hV2) (n:=sp) hsp true (hs.up hV2) hl).use ?_);rintro v w⟨V3,m,jj,rs,qs,o,g,aw,K,rfl,hres⟩;replace H:=Rel.call H K;simp only[aL]at H;have bu:=hV2.trans aw;refine H.wn ?_;intro w b7 H;cases hr:ie (aY sp) (cy true) l with
  | none =>
   rw[hr]at hres;obtain rfl:=hres;have hone:fD (2*sp+1) l=none:=by unfold fD;rw[d2,d3,hr]
   refine H.wg ?_;intro w H;exact⟨sB,2,sB,⟨aa,λi h=>if e:i=2*sp+1 then e▸hone else hno i aa,V3,bu,DA.trans aw,H.sx⟩,aa⟩
  | some y =>
   obtain⟨R,op⟩:=y;rw[hr]at hres;obtain⟨rfl,hm,rfl,rfl,bI,gm⟩:=hres;obtain rfl:sp=m:=hm.symm;obtain⟨q1,q2,q3⟩:=xK (s:=aY sp) (kA true) o R;rw[<-(B3 hr).1]at q1 q3;refine H.wg ?_;intro w H;refine(Yu H.data sp true o (qs:=qs) bI aa).use ?_;rintro v w⟨rfl,K⟩;replace H:=Rel.call H K;simp only[aL]at H;cases fw:lz true R o with
   | true =>
    have hone:fD (2*sp+1) l=some (R,o):=by unfold fD;rw[d2,d3,hr];simp only;rw[ag fw]
    have e:tO l=some (2*sp+1,R,o):=JZ aa aa aa (λj _ h=>hno j aa) hone;rw[e];refine H.wg ?_;intro w H;exact⟨V3,sp,true,rs,qs,o,true,bu,H.sx,rfl,rfl,by rw[d2],by rw[d3],rfl,bI,by rw[d2];exact gm⟩
   | false =>
    have hone:fD (2*sp+1) l=none:=by unfold fD;rw[d2,d3,hr];simp only;rw[ae (by rw[fw];decide)]
    refine wk ?_;exact⟨sB,2,sB,⟨aa,λi h=>if e:i=2*sp+1 then e▸hone else hno i aa,V3,bu,DA.trans aw,H.sx⟩,aa⟩
 refine wk ?_;exact⟨sB,sp+1,sB,⟨aa,λi h=>hno i aa,V2,hV2,H.sx⟩,aa⟩
abbrev Ab(V:ad)(h:VH)(r:bf):Prop:=cb V h (wP r)
theorem JE:∀(V V':ad) (x:VH) (y:bf),Sub V V'->Ab V x y->Ab V' x y:=λ_ _ _ _ k h=>h.up k
theorem XK{s:Sl}{gs:List Sl}{r:bf}(h1:aA a8 V s (gs.map ft))(h2:Pw lW V gs r):Ab V ⟨3,0,⟨none,0,0⟩,⟨none,0,0⟩,s⟩ r :=
 .mk (gs.map ft) rfl rfl (aA.nil _ _) (aA.nil _ _) h1 (by show(gs.map ft).length=(r.map xu).length;rw[aW,aW,h2.len]) λi x p hx hp=>by
  have hp:(r.map xu)[i]?=some p:=hp;rw[ib]at hx hp;cases hg:gs[i]? with
  | none=>rw[hg]at hx;cases hx
  | some g =>
   cases hr:r[i]? with
   | none=>rw[hr]at hp;cases hp
   | some y =>rw[hg]at hx;rw[hr]at hp;cases hx;cases hp;exact tS (h2.all i g y hg hr)
theorem YK{s:Sl}{hs:List VH}{T:pT}(h1:aA a8 V s hs)(h2:Pw Ab V hs T):cb V ⟨3,0,⟨none,0,0⟩,⟨none,0,0⟩,s⟩ (mm T) :=
 .mk hs rfl rfl (aA.nil _ _) (aA.nil _ _) h1 (by show hs.length=(T.map wP).length;rw[h2.len,aW]) λi x p hx hp=>by
  have hp:(T.map wP)[i]?=some p:=hp;rw[ib]at hp;cases hT:T[i]? with
  | none=>rw[hT]at hp;cases hp
  | some y =>rw[hT]at hp;cases hp;exact h2.all i x y hx hT
theorem WE(hV:Sub V W)(n:Nat)(k o:Bool){rs qs:Sl}{T:pT}(hs:qT V rs T)(hl:T.length<=100000)(hrl:∀r∈T,r.length<=100000):aB 152 [.agg (lZ n k rs qs o).toArray] W λv w'=>∃(V':ad) (h:VH),Sub V V'/\Rel W V [] V' w'/\v=gw h/\cb V' h (mm T):=by
 have H:=aG hV;have hlen:=hs.len;obtain⟨xs,h1,h2⟩:=hs;have L5:=h2.len;refine eV Tryz.func152 40 [0,1,2,3,5,6,8,11,12,13,14,18,19,20,21] ?_;refine H.wn ?_;intro w b1 H;refine H.wn ?_;intro w b2 H;refine H.wn ?_;intro w b3 H;refine H.wg ?_;intro w H;replace H:=H.br 27 5;have H0:Rel W V [.row ⟨none,0,0⟩ 27 5 [],.ay b3 [iv 3,iv 0,.slice none 0 0,.slice none 0 0,.slice none 0 0] 27,.ay b2 (a8 aV) 27,.ay b1 (lZ n k rs qs o) 187] V w:=H.pick;clear H;have H:=H0;clear H0;refine aP (S:=Nat×Sl×List VH) al [0,1,2,3,11,12] (λz=>[(13,iv z.1)]) (λz w'=>z.1<=T.length/\∃V2,Sub V V2/\Pw Ab V2 z.2.2 (T.take z.1)/\Rel W V [.row z.2.1 27 5 (z.2.2.flatMap a8),.ay b3 [iv 3,iv 0,.slice none 0 0,.slice none 0 0,z.2.1.v] 27,.ay b2 (a8 aV) 27,.ay b1 (lZ n k rs qs o) 187] V2 w') (λz _=>T.length-z.1) (0,⟨none,0,0⟩,[]) ?_;conv=>whnf
 refine⟨sB,⟨aa,V,aS _,Pw.nil,H⟩,?_⟩;clear H;rintro⟨i,pr,hh⟩w⟨hi,V2,hV2,hP,H⟩;dsimp only at hi hP H |-;have Me:=hP.len;rw[bg]at Me;by_cases hlt:i<T.length;rotate_left
 ·obtain rfl:i=T.length:=aa;rw[fA]at hP;refine H.wg ?_;intro w H;obtain⟨V3,aw,H,hr⟩:=Rel.aJ H;exact⟨V3,⟨3,0,⟨none,0,0⟩,⟨none,0,0⟩,pr⟩,hV2.trans aw,H.sx,rfl,YK hr (hP.up JE aw)⟩
 obtain⟨p0,c0⟩:=(h1.up hV2).aR (g:=λx:Sl=>x.v) (λ_=>rfl) (i:=i) aa;obtain⟨gs,g1,g2⟩:=h2.all i (xs[i]'aa) T[i] (bz _) (bz _);have ht:=bK hlt;obtain⟨r,hr⟩:∃r,r=T[i]:=⟨_,rfl⟩
 obtain⟨x,hx⟩:∃x,x=xs[i]'aa:=⟨_,rfl⟩
 have UF:=hrl r (by rw[hr];exact bS hlt);rw[<-hr]at g2 ht;rw[<-hx]at c0 g1;have LQ:=g1.len;have LR:=g2.len;refine H.wn ?_;intro w b6 H;refine H.wg ?_;intro w H;replace H:=H.br 27 5;refine aP (S:=Nat×Sl) al [0,1,2,3,5,6,11,12,13,14,18,19] (λz=>[(20,iv z.1)]) (λz w'=>z.1<=r.length/\Rel W V [.row z.2 27 5 (((gs.take z.1).map ft).flatMap a8),.ay b6 [iv 3,iv 0,.slice none 0 0,.slice none 0 0,z.2.v] 27,.row pr 27 5 (hh.flatMap a8),.ay b3 [iv 3,iv 0,.slice none 0 0,.slice none 0 0,pr.v] 27,.ay b2 (a8 aV) 27,.ay b1 (lZ n k rs qs o) 187] V2 w') (λz _=>r.length-z.1) (0,⟨none,0,0⟩) ?_;conv=>whnf
 refine⟨sB,⟨aa,H⟩,?_⟩;clear H;rintro⟨j,p2⟩w⟨hj,H⟩;dsimp only at hj H |-;by_cases qf:j<r.length
 ·obtain⟨p1,c1⟩:=(g1.up hV2).aR (g:=λx:Sl=>x.v) (λ_=>rfl) (i:=j) aa;obtain⟨g,hg⟩:∃g,g=gs[j]'aa:=⟨_,rfl⟩
  have DU:=bK (l:=gs) (i:=j) aa;rw[<-hg]at c1 DU;have jS:((gs.take j).map ft).length=j:=by rw[aW,bg];omega
  refine H.wn ?_;intro w b28 H;refine wk ?_;refine Rel.bF (f:=a8) (s:=p2) (l:=(gs.take j).map ft) (x:=ft g) rfl (λ_=>rfl) (by simp[Value.oneCell']) H (by rw[jS];show(j+1)*88<=_;omega) (by rw[jS];omega) ?_;intro p3 w H;rw[show(gs.take j).map ft++[ft g]=(gs.take (j+1)).map ft by rw[DU,dU];rfl]at H;refine H.wg ?_;intro w H;exact⟨sB,(j+1,p3),sB,⟨by dsimp only;omega,H⟩,by dsimp only;omega⟩
 rw[bJ aa]at H;obtain⟨V3,aw,H,iz⟩:=Rel.aJ H;refine H.wn ?_;intro w b35 H;refine wk ?_;refine Rel.eH (f:=a8) (s:=pr) (l:=hh) (x:=⟨3,0,⟨none,0,0⟩,⟨none,0,0⟩,p2⟩) rfl (λ_=>rfl) (by simp[Value.oneCell']) H (by show(hh.length+1)*88<=_;omega) aa ?_;intro Ou w H;refine H.wg ?_;intro w H;refine⟨sB,(i+1,Ou,hh++[⟨3,0,⟨none,0,0⟩,⟨none,0,0⟩,p2⟩]),sB,⟨by dsimp only;omega,V3,hV2.trans aw,?_,H.sx⟩,by dsimp only;omega⟩;dsimp only;rw[ht];exact(hP.up JE aw).snoc (XK iz (g2.up (λ_ _ _ _ k h=>h.up k) (hV2.trans aw)))
theorem LF(hV:Sub V W){n:Nat}(hn:n<3)(k o:Bool)(rs qs:Sl):aB 234 [.agg (lZ n k rs qs o).toArray] W λv w'=>v=iv (gu n k o:Nat)/\Rel W V [] V w':=by
 have H:=aG hV;refine eV Tryz.func234 17 [0,1,2,3,9,13] ?_;cases k<;>cases o
 all_goals
  refine H.wn ?_;intro w b1 H;refine wk ?_;first|exact H.sx|exact⟨rfl,H.sx⟩
theorem ajf(hV:Sub V W){n:Nat}(hn:n<3)(k o:Bool)(rs:Sl){qs:Sl}{Z:au}(gm:aA bN V qs (nz Z))(od:Z.length<=1000)(hZ:∀n∈Z,n<=1000):aB 153 [.agg (lZ n k rs qs o).toArray] W λv w'=>∃(V':ad) (r:Sl),Sub V V'/\Rel W V [] V' w'/\v=r.v/\aF V' r (lA (gu n k o) Z):=by
 have H:=aG hV;have cD:=gm.len;rw[aW]at cD;obtain⟨f1,_⟩:=wW (n:=n) aa k o;refine eV Tryz.func153 19 [0,1,2,11] ?_;refine H.wn ?_;intro w b1 H;refine wk ((LF H.data hn k o rs qs).use ?_);rintro v w⟨rfl,K⟩;replace H:=Rel.call H K;simp only[aL]at H;by_cases h0:gu n k o=0/\Z=[]
 ·have e:lA (gu n k o) Z=[]:=by unfold lA;rw[ag h0]
  obtain⟨h1,h2⟩:=h0;have h3:Z.length=0:=by rw[h2];rfl
  rw[e];refine wk ?_;exact⟨V,⟨none,0,0⟩,aS _,H.sx,rfl,aA.nil _ _⟩
 have e:lA (gu n k o) Z=az (gu n k o:Nat)++cm az (nz Z):=by unfold lA;rw[ae h0]
 rw[e];have hpl:=Ow (Z:=Z) od hZ;have hpn:=dq (n:=((gu n k o:Nat):Int)) aa aa;by_cases h1:gu n k o=0
 ·have h3:Z.length≠0:=λq=>h0 ⟨h1,dt q⟩;refine wk ?_;refine dV 3 [1,2] [0,3,4,1,2,5,6,7] H ?_;intro w H;refine wk ((LF H.data hn k o rs qs).use ?_);rintro v w⟨rfl,K⟩;replace H:=Rel.call H K;simp only[aL]at H;refine wk ?_;refine(jW (n:=((gu n k o:Nat):Int)) H.data (by constructor<;>omega)).use ?_;rintro v w⟨r1,rfl,K⟩;replace H:=H.cq K;refine wk ?_;refine(FF (l:=nz Z) (enc:=az) H.data gm (λz hz=>ER z ?_) (by rw[aW];omega) aa).use ?_
  ·obtain⟨m,hm,rfl⟩:=cJ.1 hz;have:=hZ m hm;constructor<;>omega
  rintro v w⟨r2,rfl,K⟩;replace H:=H.cq K;refine wk ?_;refine Rel.eB H (i:=0) rfl aa ?_;intro rn w H;simp only[bH]at H;obtain⟨V3,aw,H,hr3⟩:=Rel.aJ H;refine wk ?_;exact⟨V3,rn,aw,H.sx,rfl,hr3⟩
 refine wk ?_;refine dV 3 [1,2] [0,3,4,1,2,5,6,7] H ?_;intro w H;refine wk ((LF H.data hn k o rs qs).use ?_);rintro v w⟨rfl,K⟩;replace H:=Rel.call H K;simp only[aL]at H;refine wk ?_;refine(jW (n:=((gu n k o:Nat):Int)) H.data (by constructor<;>omega)).use ?_;rintro v w⟨r1,rfl,K⟩;replace H:=H.cq K;refine wk ?_;refine(FF (l:=nz Z) (enc:=az) H.data gm (λz hz=>ER z ?_) (by rw[aW];omega) aa).use ?_
 ·obtain⟨m,hm,rfl⟩:=cJ.1 hz;have:=hZ m hm;constructor<;>omega
 rintro v w⟨r2,rfl,K⟩;replace H:=H.cq K;refine wk ?_;refine Rel.eB H (i:=0) rfl aa ?_;intro rn w H;simp only[bH]at H;obtain⟨V3,aw,H,hr3⟩:=Rel.aJ H;refine wk ?_;exact⟨V3,rn,aw,H.sx,rfl,hr3⟩
theorem ak2(hV:Sub V W)(hT:qS V)(hM:pO V){s:Sl}{l:ab}(hs:aF V s l)(hl:l.length<=1099511627776):aB 64 [s.v] W (mY W V (cH (gU l) l.length)):=by
 have H:=aG hV;have hlen:=hs.len;refine eV Tryz.func64 34 [0,2,3,4,5,6,7,10,27] ?_;refine H.wn ?_;intro w b2 H;refine H.wn ?_;intro w b4 H;by_cases dz:1000<l.length
 ·have e:cH (gU l) l.length=⟨zeroV,[],3, -1⟩:=by unfold cH;rw[ag dz]
  rw[e];refine wk ((Lt H.data 3 (-1)).use ?_);rintro v w⟨rfl,K⟩;replace H:=Rel.call H K;simp only[aL]at H;refine H.wg ?_;intro _ w H;exact⟨V,aV,⟨none,0,0⟩,aS _,H.sx,rfl,cG _,aA.nil _ _⟩
 refine wk ?_;refine(ac4 H.data hT hM hs aa).use ?_;rintro v w⟨V2,m,j,rs,qs,o,g,hV2,K,rfl,hres⟩;replace H:=Rel.call H K;simp only[aL]at H;refine H.wn ?_;intro w b5 H;cases hf:tO l with
 | none =>
  rw[hf]at hres;obtain⟨rfl,rfl⟩:=hres;have e:cH (gU l) l.length=⟨zeroV,[],21, -1⟩:=by unfold cH;rw[ae dz,gU,hf]
  rw[e];refine H.wg ?_;intro w H;refine(WE H.data m j o (qs:=qs) (qT.nil _) ah ah).use ?_;rintro v w⟨V3,h,aw,K,rfl,hv⟩;replace H:=Rel.call H K;simp only[aL]at H;refine H.wn ?_;intro w b7 H;refine H.wg ?_;intro w H;refine(Lt H.data 21 (-1)).use ?_;rintro v w⟨rfl,K⟩;replace H:=Rel.call H K;simp only[aL]at H;refine H.wg ?_;intro _ w H;exact⟨V3,aV,⟨none,0,0⟩,hV2.trans aw,H.sx,rfl,cG _,aA.nil _ _⟩
 | some y =>
  obtain⟨i,R,op⟩:=y;rw[hf]at hres;obtain⟨rfl,rfl,rfl,rfl,bI,gm⟩:=hres;dsimp only at bI gm |-;have F:=YF hf;have hi:=F.lt;obtain⟨q1,q2,q3⟩:=xK (s:=aY (i/2)) (kA (dx i)) o R;rw[<-F.eq]at q1 q2 q3;have hrl:∀r∈iF R,r.length<=100000:=λr hr=>by obtain⟨x,hx,rfl⟩:=cJ.1 hr;have:=Iy hx;rw[aW];omega
  have q8:VB 1048576 (mm (iF R)):=Ql (by simp;omega) λa ha=>⟨qu (hrl a ha) ai,λy hy=>by obtain⟨x,hx,rfl⟩:=cJ.1 ha;obtain⟨c,hc,rfl⟩:=cJ.1 hy;have:=q2 x hx c hc;omega⟩
  have hto:gU l=tN i R o:=by unfold gU;rw[hf]
  refine H.wg ?_;intro w H;refine(WE H.data (i/2) (dx i) o (qs:=qs) bI (by simp;omega) hrl).use ?_;rintro v w⟨V3,h,aw,K,rfl,hv⟩;replace H:=Rel.call H K;simp only[aL]at H;refine H.wn ?_;intro w b7 H;refine H.wg ?_;intro w H;refine(Ct H.data hv q8).use ?_;rintro q w⟨rfl,K⟩;replace H:=Rel.call H K;simp only[aL]at H;by_cases hvf:(ct (mm (iF R))).1=0;rotate_left
  ·have e:cH (gU l) l.length=⟨zeroV,[],21, -1⟩:=by unfold cH;rw[ae dz,hto];unfold tN;rw[ae hvf]
   rw[e];refine wk ((Lt H.data 21 (-1)).use ?_);rintro v w⟨rfl,K⟩;replace H:=Rel.call H K;simp only[aL]at H;refine H.wg ?_;intro _ w H;exact⟨V3,aV,⟨none,0,0⟩,hV2.trans aw,H.sx,rfl,cG _,aA.nil _ _⟩
  have e:cH (gU l) l.length=⟨mm (iF R),lA (gu (i/2) (dx i) o) (qn (aY (i/2)) 0 R.flatten),0,0⟩:=by unfold cH;rw[ae dz,hto];unfold tN;rw[ag hvf]
  rw[e,zO hvf];have Ia:=Fk (s:=aY (i/2)) (e:=cy (dx i)) o R 0;rw[<-F.eq]at Ia;have hok:=IF (s:=aY (i/2)) (cs:=R.flatten) aa;refine wk ?_;refine dV 7 [2] [0,1,3,2,4,5,6] H ?_;intro w H;refine wk ?_;refine(ajf H.data aa (dx i) o rs (gm.up aw) aa (λn hn=>?_)).use ?_
  ·have:=hok.1 (n:Int) (cJ.2 ⟨n,hn,rfl⟩);omega
  rintro v w⟨V4,r2,ar,K,rfl,hr2⟩;replace H:=Rel.call H K;simp only[aL]at H;refine H.wg ?_;intro _ w H;exact⟨V4,_,r2,(hV2.trans aw).trans ar,H.sx,rfl,hv.up ar,hr2⟩
end Go.Proofs.YtmoiobegbpkkbaaGreatDoor
