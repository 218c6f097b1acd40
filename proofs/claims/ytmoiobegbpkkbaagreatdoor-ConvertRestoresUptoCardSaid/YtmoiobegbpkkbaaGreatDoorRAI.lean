import Derived.Test.YtmoiobegbpkkbaaGreatDoorRAH
import Derived.Shelf.Strings.Cut
import Derived.Lib.BytesEntry
open Array renaming getElem?_eq_some_iff->jG
open Bool renaming and_eq_true->dM
open List renaming getElem?_map->eu,all_eq_true->bj,append_nil->cm,getElem?_eq_some_iff->cW,length_cons->av,zipIdx_cons->Gv,take_of_length_le->bR,append_assoc->bJ,cons_append->aL,nil_append->aA,mem_map->cG,length_append->aq,length_take->bb,length_singleton->cQ,flatMap_cons->bz,mem_append->cq,mem_filterMap->sM,mem_range->sN,eq_nil_of_length_eq_zero->bL,mem_of_getElem?->fH,pairwise_append->ue,pairwise_cons->lS,getElem_mem->cj,set_cons_succ->iR,nil_sublist->uf,mem_of_mem_take->AW,take_succ_eq_append_getElem->bZ,take_length->fR,drop_succ_cons->Lq,flatMap_append->bT,mem_singleton->cv,drop_zero->kZ,getElem?_eq_getElem->a8,getElem?_cons_zero->AZ,set_cons_zero->bC,length_map->bu,getElem_cons_zero->pU,getElem_cons_succ->DC,getElem?_reverse->Tz,getD_eq_getElem?_getD->LF
open List.Sublist renaming refl->pO
open Nat renaming le_refl->aK,le_trans->sJ,mul_le_mul->lU
open Option.some renaming inj->kX
namespace Go.Proofs.YtmoiobegbpkkbaaGreatDoor
open Go Go.RowKit
set_option maxRecDepth 100000
set_option maxHeartbeats 8000000
variable{α β:Type}{V w W:ae}{s dl:Sl}{l b d:ad}{k a B:Nat}{S:List bH}{hs:List (Nat×Sl)}{C:Cx}{v:ar}{P:Program}
theorem Pw.rev{R:ae->β->α->Prop}{xs:List β}{ys:List α}(h:Pw R V xs ys):Pw R V xs.reverse ys.reverse:=by
 have hl:=h.len;refine⟨by simp[hl],λk x y hx hy=>?_⟩;have hk:k<xs.length:=by simpa using(cW.1 hx).1
 rw[Tz hk]at hx;rw[Tz aa,<-hl]at hy;exact h.all _ x y hx hy
section
variable{V W:ae}
theorem Yp{n h:Nat}(hs:ay V s l)(hn:1<=n)(hl:l.length=h*n):Pw ju V ((List.range h).map (ja s n)) (cX n h l):=by
 refine⟨by simp[cX],λk x y hx hy=>?_⟩;have hk:k<h:=by simpa using(cW.1 hx).1
 rw[eu,List.getElem?_range hk]at hx;rw[Mi hk]at hy;cases hx;cases hy;exact H8 hs hn (by rw[hl];exact(zG hn k).1 hk)
theorem Uf(hV:Sub V W){s:Sl}{l:ad}(hs:ay V s l){n h:Nat}(hn:1<=n)(hn2:n<=100000)(hh:h<=100000)(hl:l.length=h*n)(hl2:l.length<=1000000) :
  aC 216 [s.v,iv (n:Int)] W λv w'=>∃r:Sl,v=r.v/\Rel W V [.row r 5 1 ((cX n h l).reverse.flatten.flatMap aE)] V w':=by
 have H:=Rel.start hV;refine eV Tryz.func216 14 [0,1,4,5] ?_;refine wk ?_;refine(EB H.data s hn).use ?_;rintro v w⟨b,c,rfl,V2,hV2,K,hb,hc⟩;(replace H:=H.az K);refine wk ?_;refine(Yw (m:=h) H.data hb hc (hs.up hV2) aa hn aa (by rw[hl];exact zG hn) aa).use ?_;rintro v w⟨r,rfl,K⟩;(replace H:=Rel.call H K);simp only[cm]at H;refine wk ?_;refine(afL H (by simp;omega)).use ?_;clear K H;rintro v w H;obtain⟨V3,aw,H,hr⟩:=Rel.aT H (λ_=>rfl) ag;have cJ:(cX n h l).reverse.flatten.length<=1000000:=by
  rw[ZV,GN hl];exact hl2
 refine wk ?_;refine(nf H.data hr ((Yp ((hs.up hV2).up aw) hn hl).rev) (by simp[cX];omega) aa).use ?_;rintro v w⟨r2,rfl,K⟩;(replace H:=Rel.call H K);simp only[cm]at H;refine wk ?_;exact⟨r2,rfl,H.less (Sub.refl _) (hV2.trans aw)⟩
theorem Ny{g:α->Option β}{l:List α}{R:List β}{y:β}(hk:k<l.length)(h:allM g (l.take k)=some R)(hy:g l[k]=some y):allM g (l.take (k+1))=some (R++[y]):=by
 rw[bZ hk];exact Nx h hy
theorem Mg{f w h:Nat}{aH:List bS}(hf:f<64)(hp:kF f aH){d:ad}(hd:d.length=h*rowOf f w){k:Nat}{R:bg}(hR:allM (uq f aH w) ((cX (rowOf f w) h d).take k)=some R):R.length<=h/\∀r∈R,r.length=3*w:=by
 obtain⟨h1,h2⟩:=o0 hR;rw[bb,lV]at h1;refine⟨aa,λr hr=>?_⟩;obtain⟨i,hi,rfl⟩:=List.mem_iff_getElem.1 hr;have hy:((cX (rowOf f w) h d).take k)[i]?=some (((cX (rowOf f w) h d).take k)[i]'(by rw[bb,lV];omega)):=a8 _;exact(Ws hf hp (yL hd (AW (fH hy))) (h2 i _ _ hy (a8 hi))).1
structure Nr(W V:ae)(o:fx)(v:ao)(w':ae):Prop where
 ex:∃(V':ae) (r:Sl),Sub V V'/\Rel W V [] V' w'/\(match o with
  | none=>v=.tuple #[.slice none 0 0,.bool false]
  | some x=>v=.tuple #[r.v,.bool true]/\ay V' r x)
theorem afi(hV:Sub V W){f:Nat}(hf:f<64){ps:Sl}{aH:List bS}(hp:l7 V ps aH)(hpo:kF f aH){s:Sl}{B:ad}(hs:ay V s B)(hl:B.length<=70000){wd ht:Nat}(hw0:1<=wd)(hw:wd<=64)(hh:ht<=64) :
  aC 211 [.agg (fV f ps).toArray,s.v,iv (wd:Int),iv (ht:Int)] W (Nr W V (AN f aH wd ht B)):=by
 have H:=Rel.start hV;have hlen:=hs.len;have Qo:=BM f;have hro:rowOf f wd<=200:=by
  unfold rowOf;have:wd*bitsOf f<=64*24:=lU hw Qo.2;omega
 have hr1:1<=rowOf f wd:=by
  unfold rowOf;have:1*1<=wd*bitsOf f:=lU hw0 Qo.1;omega
 have hmul:((rowOf f wd:Nat):Int)*(ht:Int)=((rowOf f wd*ht:Nat):Int):=(Int.natCast_mul _ _).symm;have sf:rowOf f wd*ht<=200*64:=lU hro hh;refine qo ah Tryz.func211 rfl aj 60 rfl ai [0,1,2,3,4,6,8,9,10,11,12,13,14,15,26,36,39,40,49,54] ?_;refine aP.dH ah ?_;refine wk ?_;refine H.nA ?_;clear H;intro w b4 H;refine wk ?_;refine H.nA ?_;clear H;intro w b6 H;refine wk ?_;refine H.nA ?_;clear H;intro w b8 H;refine wk ?_;refine H.nA ?_;clear H;intro w b9 H;refine wk ?_;refine aP.dH ah ?_;refine wk ?_;refine(Mh H.data hf ps hw).use ?_;rintro q w⟨rfl,K⟩;(replace H:=H.az K);refine wk ?_;refine aP.dH ah ?_;refine wk ?_
 refine aP.oH ah (λq:Sl×Bool=>[(1,q.1.v),(3,iv ht),(4,.pointer (some ⟨b4,0,none⟩)),(6,.pointer (some ⟨b6,0,none⟩)),(8,.pointer (some ⟨b8,0,none⟩)),(9,.pointer (some ⟨b9,0,none⟩)),(10,iv (rowOf f wd:Nat)),(11,.bool q.2)])
  (λq w'=>∃V2,Sub V V2/\Rel W V [.ax b9 [.bool false] 4,.ax b8 [.slice none 0 0] 22,.ax b6 [iv wd] 3,.ax b4 (fV f ps) 160] V2 w'/\(match uu f (rowOf f wd*ht) B with
   | none=>q.2=false
   | some d=>q.2=true/\ay V2 q.1 d)) ?_ ?_
 ·refine wk ?_;refine(Ql H.data aa ps).use ?_;rintro q w⟨rfl,K⟩;(replace H:=H.az K);unfold uu;by_cases dS:f/2%2=1
  ·rw[decide_eq_true dS,if_pos dS];refine wk ?_;rw[hmul];refine(ah6 H.data hs aa aa).use ?_;rintro v w⟨V2,r,hV2,K,hk⟩;(replace H:=H.az K);cases hu:oP B (rowOf f wd*ht)with
   | none =>
    rw[hu]at hk;obtain rfl:=hk;refine wk ?_;exact⟨(r,false),sB,V2,hV2,H.sx,rfl⟩
   | some d =>
    rw[hu]at hk;obtain⟨rfl,hr⟩:=hk;refine wk ?_;exact⟨(r,true),sB,V2,hV2,H.sx,rfl,hr⟩
  ·rw[decide_eq_false dS,if_neg dS];by_cases hsz:B.length=rowOf f wd*ht
   ·rw[if_pos hsz];refine wk ?_;exact⟨(s,true),⟨rfl,rfl,rfl,rfl,rfl,rfl,rfl,congrArg (λb=>some (Value.bool b)) (decide_eq_true aa),trivial⟩,V,Sub.refl _,H.sx,rfl,hs⟩
   ·rw[if_neg hsz];refine wk ?_;exact⟨(s,false),⟨rfl,rfl,rfl,rfl,rfl,rfl,rfl,congrArg (λb=>some (Value.bool b)) (decide_eq_false aa),trivial⟩,V,Sub.refl _,H.sx,rfl⟩
 clear H;rintro⟨q0,k⟩w⟨V2,hV2,H,hk⟩;dsimp only at H hk;unfold AN;refine aP.go ah ?_;cases hd:uu f (rowOf f wd*ht) B with
 | none =>
  rw[hd]at hk;obtain rfl:=hk;refine H.wg ?_;clear H;intro _ w H;exact⟨V2,⟨none,0,0⟩,hV2,H.sx,rfl⟩
 | some d =>
  rw[hd]at hk;obtain⟨rfl,hq0⟩:=hk;dsimp only;refine wk ?_;refine H.nA ?_;clear H;intro w uO H;have hdl:d.length=ht*rowOf f wd:=by rw[Uh hd,Nat.mul_comm]
  have Qx:d.length<=20000:=by rw[hdl];have:=lU hh hro;omega
  refine wk ?_;refine(EB H.data q0 (n:=rowOf f wd) hr1).use ?_;rintro v w⟨b,c,rfl,V3,aw,K,hb,hc⟩;(replace H:=H.az K);refine wk ?_;have hB:=H.base.size;replace H:=H.cb 5 1;have fg:=hV2.trans aw
  refine LU ah rfl (by(conv=>whnf)) (EA (m:=ht) hb hc (hq0.up aw) aa hr1 aa (by rw[hdl];exact zG hr1)) ?_ rfl (σ:=Sl×bg) (τ:=Unit)
   (λk q=>[.row q.1 5 1 (q.2.flatten.flatMap aE),.ax uO [q.1.v] 22,.ax b9 [.bool false] 4,.ax b8 [.slice none 0 0] 22,.ax b6 [iv wd] 3,.ax b4 (fV f ps) 160]) (λ_ _=>rfl)
   (λk q _=>allM (uq f aH wd) ((cX (rowOf f wd) ht d).take k)=some q.2)
   (λ_ _=>[.ax b9 [.bool false] 4,.ax b8 [.slice none 0 0] 22]) (λ_ _=>rfl) (λc _ _=>c=.ret/\yM f aH wd ht d=none) (⟨none,0,0⟩,[]) (Sub.refl _) H.sx rfl ?_ ?_ ?_
  ·intro y hy;obtain⟨i,_,rfl⟩:=cG.1 hy;rfl
  ·clear H;rintro L k x w⟨r,R⟩V4 hx aG hF H;have hk:k<ht:=by
    have:=(cW.1 hx).1;rwa [tp]at this
   rw[BT hk]at hx;cases hx;conv=>whnf
   refine⟨rfl,l8.refl _ _,λw' gv=>?_⟩;obtain⟨X,H,hX⟩:=(H.tw rfl hB gv).marks rfl hB;simp only[aL,aA]at H;dsimp only at hF H;clear gv;generalize w'=w at H hX |-;have lG:k*rowOf f wd<d.length:=by rw[hdl];exact(zG hr1 k).1 hk
   have hch:=H8 ((hq0.up aw).up aG) hr1 lG;have xZ:(pa d (rowOf f wd) k).length=rowOf f wd:=by
    have hm:pa d (rowOf f wd) k∈cX (rowOf f wd) ht d:=cG.2 ⟨k,sN.2 hk,rfl⟩;exact yL hdl hm
   obtain⟨rZ,Jj⟩:=Mg hf hpo hdl hF;have cJ:=(zX Jj).1;have aa5:R.flatten.length<=20000:=by rw[cJ];have:=lU (sJ rZ hh) (show 3*wd<=192 by omega);omega
   refine wk ?_;refine(afh H.data hf ((hp.up fg).up aG) hpo hch hw xZ).use ?_;rintro v w2⟨V5,r5,aQ,K,hres⟩;(replace H:=H.az K);have fP:k<(cX (rowOf f wd) ht d).length:=by rw[lV];exact hk
   have gd:(cX (rowOf f wd) ht d)[k]=pa d (rowOf f wd) k:=by
    have:=Mi (s:=rowOf f wd) (l:=d) hk;rw[a8 fP]at this;exact kX this
   cases hpx:uq f aH wd (pa d (rowOf f wd) k)with
   | none =>
    rw[hpx]at hres;obtain rfl:=hres;have hno:yM f aH wd ht d=none:=by
     unfold yM;rw[zw (cj fP) (by rw[gd];exact hpx)]
    refine H.wg ?_;clear H;intro _ w H;exact⟨hX _ (λr hr=>H.laid r (by simp[hr])),V5,(),aG.trans aQ,⟨rfl,hno⟩,H.sx⟩
   | some px =>
    rw[hpx]at hres;obtain⟨rfl,ko⟩:=hres;have E3:=Ny fP hF (by rw[gd];exact hpx);have hpl:=(Mg hf hpo hdl E3).2 px ai;refine wk ?_;refine Rel.eJ H (i:=0) rfl ko aa ?_;clear H;intro r1 w H;simp only[bC]at H;refine H.wg ?_;clear H;intro w H;refine⟨hX _ (λr hr=>H.laid r (by simp[hr])),V5,(r1,R++[px]),aG.trans aQ,E3,?_⟩;rw[List.flatten_append,List.flatten_singleton];exact H.sx
  ·clear H;rintro D w⟨r,R⟩V4 aG hF H;simp only[aL,aA]at H;rw[tp,bR (by rw[lV];omega)]at hF;dsimp only at hF H;have hpx:yM f aH wd ht d=some (turn f R).flatten:=by unfold yM;rw[hF]
   have P3:=hF;rw[<-bR (l:=cX (rowOf f wd) ht d) (i:=ht) (by rw[lV];omega)]at P3;obtain⟨rZ,Jj⟩:=Mg hf hpo hdl P3;have aar:R.length=ht:=by rw[(o0 hF).1,lV]
   have hfr:=zX Jj;rw[aar]at hfr;have aa5:R.flatten.length<=20000:=by rw[hfr.1];have:=lU hh (show 3*wd<=192 by omega);omega
   rw[hpx];obtain⟨V5,aQ,H,ko⟩:=Rel.aT H (λ_=>rfl) ag;refine wk ?_;refine(Qk H.data aa ps).use ?_;rintro q w⟨rfl,K⟩;(replace H:=H.az K);by_cases tU:f%2=1
   ·rw[decide_eq_true tU];refine wk ?_;rw[show 3*(wd:Int)=((3*wd:Nat):Int)by omega];refine(Uf (h:=ht) H.data ko aa aa aa hfr.1 aa).use ?_;rintro v w⟨r6,rfl,K⟩;(replace H:=Rel.call H K);simp only[aL,aA]at H;rw[hfr.2]at H;obtain⟨V6,cg,H,Fu⟩:=Rel.aT H (λ_=>rfl) ag;refine H.wg ?_;clear H;intro _ _ w H;refine⟨H.mark ai,λw' gv=>?_⟩;replace H:=H.uG (own':=[.ax b9 [.bool true] 4,.ax b8 [r6.v] 22]) (by repeat (first|exact pO _|refine List.Sublist.cons_cons _ ?_|refine List.Sublist.cons _ ?_|exact uf _)) rfl (by simp;rfl) gv;generalize w'=w at H;refine wk ?_;refine⟨V6,r6,(((fg.trans aG).trans aQ).trans cg),H.sx,rfl,?_⟩;unfold turn;rw[if_pos tU];exact Fu
   ·rw[decide_eq_false tU];refine H.wg ?_;clear H;intro _ w H;refine⟨H.mark ai,λw' gv=>?_⟩;replace H:=H.uG (own':=[.ax b9 [.bool true] 4,.ax b8 [r.v] 22]) (by repeat (first|exact pO _|refine List.Sublist.cons_cons _ ?_|refine List.Sublist.cons _ ?_|exact uf _)) rfl (by simp;rfl) gv;generalize w'=w at H;refine wk ?_;refine⟨V5,r,((fg.trans aG).trans aQ),H.sx,rfl,?_⟩;unfold turn;rw[if_neg tU];exact ko
  ·clear H;rintro D c w i V4 aG⟨rfl,hno⟩H;simp only[aL,aA]at H;rw[hno];refine wk ?_;refine⟨H.mark ai,λw' gv=>?_⟩;replace H:=H.uG (own':=[.ax b9 [.bool false] 4,.ax b8 [.slice none 0 0] 22]) (by repeat (first|exact pO _|refine List.Sublist.cons_cons _ ?_|refine List.Sublist.cons _ ?_|exact uf _)) rfl (by simp;rfl) gv;generalize w'=w at H;refine wk ?_;exact⟨V4,⟨none,0,0⟩,fg.trans aG,H.sx,rfl⟩
end
structure WT(W V:ae)(o:Option qh)(v:ao)(w':ae):Prop where
 ex:∃(V':ae) (a b:Int) (f:Nat) (r ps:Sl),Sub V V'/\Rel W V [] V' w'/\(match o with
  | none=>v=.tuple #[iv a,iv b,r.v,.agg (fV f ps).toArray,.bool false]
  | some x=>v=.tuple #[iv x.wd,iv x.ht,r.v,.agg (fV x.f ps).toArray,.bool true]/\ay V' r x.px/\l7 V' ps x.aH)
theorem adV(h:b.take 4≠jn):oA b=none:=by unfold oA;rw[if_neg h]
theorem adW(h:(b.drop 4).length<3):oA b=none:=by
 unfold oA;split
 ·split
  ·rename_i he;rw[he]at h;simp at h;omega
  ·rfl
 ·rfl
theorem adU(h:b.take 4=jn){f w t:UInt8}{l:ad}(he:b.drop 4=f::w::t::l):oA b=Gb f.toNat w.toNat t.toNat l:=by
 unfold oA;rw[if_pos h,he]
section
variable{V W:ae}
theorem afp(hV:Sub V W){s:Sl}{l:ad}(hs:ay V s l)(hl:l.length<=1000):aC 132 [s.v] W (WT W V (oA l)):=by
 have H:=Rel.start hV;refine qo ah Tryz.func132 rfl aj 107 rfl ai [0,2,3,4,5,6,7,21,57,60,71,91] ?_;refine aP.dH ah ?_;refine wk ?_;refine H.nA ?_;clear H;intro w b5 H;refine wk ?_;refine aP.dH ah ?_;refine wk ?_;refine H.nA ?_;clear H;intro w bm H;refine wk ?_;refine Rel.uW (l:=[82,65,83,49]) Tryz.underlying22 Tryz.underlying5 H rfl ?_;clear H;intro V1 w hV1 hm H;refine wk ?_;refine(BW H.data (hs.up hV1) hm).use ?_;rintro v w⟨⟨r,rfl,hr⟩,K⟩;(replace H:=H.az K);have JR:([82,65,83,49]:ad).length=4:=rfl;rw[JR]at hr |-;refine wk ?_;by_cases hp:l.take 4=jn;rotate_left
 ·rw[adV hp,decide_eq_false hp];refine aP.dH ah ?_;refine H.wg ?_;clear H;intro w H;exact⟨_,_,_,0,⟨none,0,0⟩,⟨none,0,0⟩,hV1,H.sx,rfl⟩
 rw[decide_eq_true hp];replace hr:=hr hp;have hrl:=hr.len;by_cases h3:(l.drop 4).length<3
 ·rw[adW h3];refine aP.dH ah ?_;refine H.wg ?_;clear H;intro w H;exact⟨_,_,_,0,⟨none,0,0⟩,⟨none,0,0⟩,hV1,H.sx,rfl⟩
 obtain⟨x0,x1,x2,T,hL⟩:∃x0 x1 x2 T,l.drop 4=x0::x1::x2::T:=by
  match hd:l.drop 4,h3 with
  | x0::x1::x2::T,_=>exact⟨x0,x1,x2,T,rfl⟩
  | [],h=>simp at h
  | [_],h=>simp at h
  | [_,_],h=>simp at h
 have Cs:T.length+7<=1000:=by
  have:=congrArg List.length hL;simp at this;omega
 rw[hL]at hr hrl;rw[adU hp hL];have z0:=x0.toNat_lt;have z1:=x1.toNat_lt;have z2:=x2.toNat_lt;obtain⟨p0,c0⟩:=hr.aX (g:=bv) (i:=0) (λ_=>rfl) ai;obtain⟨p1,c1⟩:=hr.aX (g:=bv) (i:=1) (λ_=>rfl) ai;obtain⟨p2,c2⟩:=hr.aX (g:=bv) (i:=2) (λ_=>rfl) ai;simp only[pU,DC]at c0 c1 c2;have je:=hr.cap;simp only[av]at hrl;have ht:=hr.rest (k:=3) ai;simp only[Lq,kZ]at ht;refine aP.dH ah ?_;refine wk ?_;refine aP.dH ah ?_;(first|refine lA (id:=4) ah mixed (dB [b5]) (λ_ _ _=>dB.trans) [13] [6,7,10,11] [0,1,2,3,4,5,6,7,8,9,10,11,12,13,14,15] aj ?_);intro w aR;replace H:=Rel.ext H aR.ext;repeat ((refine wk ?_);(refine And.intro (λw1 kU=>?_) ?_;focus (obtain⟨_,H1⟩:=Rel.ux H (i:=0) rfl rfl kU;clear H;have H:=H1;clear H1;((repeat ((conv=>whnf);first|refine an ?_|((first|refine H.pH ?_|refine H.nw ?_);clear H;intro w _ H)|refine H.ce ?_|refine H.db ?_|refine ea ?_|refine ol ?_|(refine H.st ?_;(conv=>whnf);clear H;intro w H)|refine cT ?_|refine cF ?_|refine cN ?_|refine cM ?_|refine H.lw ?_|refine H.ll ?_));(conv=>whnf));try exact⟨rfl,rfl⟩)))
 refine wk ?_;refine Rel.uz H (i:=0) rfl ?_;(conv=>whnf);clear H;intro w H;refine wk ?_;refine aP.dH ah ?_;refine wk ?_;refine aP.dH ah ?_;refine wk ?_;refine(VS x0.toNat w z0).use ?_;rintro v w'⟨rfl,rfl⟩;unfold Gb;by_cases hk:rU x0.toNat/\lW x1.toNat/\lW x2.toNat;rotate_left
 ·rw[if_neg hk];unfold rU lW at hk;by_cases hfo:x0.toNat<64/\x0.toNat%16<4;rotate_left
  ·rw[decide_eq_false hfo];refine H.wg ?_;clear H;intro w H;exact⟨_,_,_,0,⟨none,0,0⟩,⟨none,0,0⟩,hV1,H.sx,rfl⟩
  rw[decide_eq_true hfo];by_cases q1:x1.toNat<1
  ·refine H.wg ?_;clear H;intro w H;exact⟨_,_,_,0,⟨none,0,0⟩,⟨none,0,0⟩,hV1,H.sx,rfl⟩
  by_cases q2:64<x1.toNat
  ·refine H.wg ?_;clear H;intro w H;exact⟨_,_,_,0,⟨none,0,0⟩,⟨none,0,0⟩,hV1,H.sx,rfl⟩
  by_cases q3:x2.toNat<1
  ·refine H.wg ?_;clear H;intro w H;exact⟨_,_,_,0,⟨none,0,0⟩,⟨none,0,0⟩,hV1,H.sx,rfl⟩
  ·refine H.wg ?_;clear H;intro w H;exact⟨_,_,_,0,⟨none,0,0⟩,⟨none,0,0⟩,hV1,H.sx,rfl⟩
 rw[if_pos hk];obtain⟨hfo,⟨w1,w2⟩,h1,h2⟩:=hk;unfold rU at hfo;rw[decide_eq_true hfo];refine wk ?_
 refine aP.oH ah (λq:Sl×Sl=>[(2,iv (x1.toNat:Nat)),(3,iv (x2.toNat:Nat)),(4,.slice none 0 0),(5,.pointer (some ⟨b5,0,none⟩)),(6,.bool true),(7,q.1.v)])
  (λq w'=>∃V2 aH T2,Sub V1 V2/\Rel W V [.ax b5 (fV x0.toNat q.2) 160] V2 w'/\rl x0.toNat T=some (aH,T2)/\ay V2 q.1 T2/\l7 V2 q.2 aH) ?_ ?_
 ·refine wk ?_;refine(C5 H.data z0 ⟨none,0,0⟩).use ?_;rintro q w⟨rfl,K⟩;(replace H:=H.az K);unfold rl;by_cases h32:x0.toNat<32
  ·rw[decide_eq_true h32,if_pos h32];refine wk ?_;refine(zN H.data z0 ⟨none,0,0⟩).use ?_;rintro q w⟨rfl,K⟩;(replace H:=H.az K);refine wk ?_;refine(T5 H.data ht aa h32).use ?_;rintro q w⟨V2,rp,t,hV2,K,hk⟩;(replace H:=H.az K);cases hpl:kW x0.toNat T with
   | none =>
    rw[hpl]at hk;obtain rfl:=hk;refine H.wg ?_;clear H;intro _ w H;exact⟨_,_,_,0,⟨none,0,0⟩,⟨none,0,0⟩,hV1.trans hV2,H.sx,rfl⟩
   | some y =>
    obtain⟨aH,T2⟩:=y;rw[hpl]at hk;obtain⟨rfl,vt,oo⟩:=hk;refine H.wg ?_;clear H;intro w H;exact⟨(t,rp),sB,V2,aH,T2,hV2,H.sx,rfl,oo,vt⟩
  ·rw[decide_eq_false h32,if_neg h32];refine wk ?_;exact⟨(_,⟨none,0,0⟩),sB,V1,[],T,Sub.refl _,H.sx,rfl,ht,aB.nil _ _⟩
 clear H;rintro⟨q,rp⟩w⟨V2,aH,T2,hV2,H,mE,hq,vt⟩;dsimp only at H hq vt;have hpo:=(G9 mE).2;rw[mE];have eW:=hq.len;have Cr:T2.length<=T.length:=by
  have:=congrArg List.length (G9 mE).1;simp at this;omega
 refine aP.go ah ?_;dsimp only;have fg:=hV1.trans hV2;match T2,hq,eW,Cr,mE with
 | [],hq,eW,Cr,mE =>
  rw[List.length_nil]at eW;refine wk ?_;(first|refine dV 4 [13] [0,1,2,3,4,5,6,7,8,9,10,11,12,13,14,15] H ?_|refine dV 12 [] [0,1,2,3,4,5,6,7,8,9,10,11,12,13,14,15,16,17,18] H ?_|refine dV 14 [] [0,1,2,3,4,5,6,7,8,9,10] H ?_|refine dV 15 [] [0,1,2,3,4,5,6,7,8,9] H ?_);clear H;intro w H;refine H.wg ?_;clear H;intro w H;exact⟨_,_,_,0,⟨none,0,0⟩,⟨none,0,0⟩,fg,H.sx,rfl⟩
 | [_],hq,eW,Cr,mE =>
  rw[cQ]at eW;refine wk ?_;(first|refine dV 4 [13] [0,1,2,3,4,5,6,7,8,9,10,11,12,13,14,15] H ?_|refine dV 12 [] [0,1,2,3,4,5,6,7,8,9,10,11,12,13,14,15,16,17,18] H ?_|refine dV 14 [] [0,1,2,3,4,5,6,7,8,9,10] H ?_|refine dV 15 [] [0,1,2,3,4,5,6,7,8,9] H ?_);clear H;intro w H;refine H.wg ?_;clear H;intro w H;exact⟨_,_,_,0,⟨none,0,0⟩,⟨none,0,0⟩,fg,H.sx,rfl⟩
 | x::y::B,hq,eW,Cr,mE =>
  simp only[av]at eW Cr;obtain⟨p0,c0⟩:=hq.aX (g:=bv) (i:=0) (λ_=>rfl) ai;obtain⟨p1,c1⟩:=hq.aX (g:=bv) (i:=1) (λ_=>rfl) ai;simp only[pU,DC]at c0 c1;have hx:=x.toNat_lt;have hy:=y.toNat_lt;have iN:=yu hx hy;have CQ:=hq.cap;have hb:=hq.rest (k:=2) ai;simp only[Lq,kZ]at hb;refine wk ?_;(first|refine dV 4 [13] [0,1,2,3,4,5,6,7,8,9,10,11,12,13,14,15] H ?_|refine dV 12 [] [0,1,2,3,4,5,6,7,8,9,10,11,12,13,14,15,16,17,18] H ?_|refine dV 14 [] [0,1,2,3,4,5,6,7,8,9,10] H ?_|refine dV 15 [] [0,1,2,3,4,5,6,7,8,9] H ?_);clear H;intro w H;refine wk ?_;rw[iF];refine wk ?_;rw[iN];rw[show K9 x0.toNat aH x1.toNat x2.toNat (x::y::B)=if 256*x.toNat+y.toNat=B.length then(match AN x0.toNat aH x1.toNat x2.toNat B with|none=>none|some px=>some ⟨x1.toNat,x2.toNat,x0.toNat,aH,px⟩)else none from rfl];by_cases hlen:256*x.toNat+y.toNat=B.length;rotate_left
  ·rw[if_neg hlen];refine H.wg ?_;clear H;intro w H;exact⟨_,_,_,0,⟨none,0,0⟩,⟨none,0,0⟩,fg,H.sx,rfl⟩
  rw[if_pos hlen];refine wk ?_;(first|refine dV 4 [13] [0,1,2,3,4,5,6,7,8,9,10,11,12,13,14,15] H ?_|refine dV 12 [] [0,1,2,3,4,5,6,7,8,9,10,11,12,13,14,15,16,17,18] H ?_|refine dV 14 [] [0,1,2,3,4,5,6,7,8,9,10] H ?_|refine dV 15 [] [0,1,2,3,4,5,6,7,8,9] H ?_);clear H;intro w H;refine wk ?_;refine(afi H.data hfo.1 vt hpo hb aa w1 w2 h2).use ?_;rintro v w⟨V3,r3,aw,K,hres⟩;(replace H:=H.az K);cases Rb:AN x0.toNat aH x1.toNat x2.toNat B with
  | none =>
   rw[Rb]at hres;obtain rfl:=hres;refine wk ?_;(first|refine dV 4 [13] [0,1,2,3,4,5,6,7,8,9,10,11,12,13,14,15] H ?_|refine dV 12 [] [0,1,2,3,4,5,6,7,8,9,10,11,12,13,14,15,16,17,18] H ?_|refine dV 14 [] [0,1,2,3,4,5,6,7,8,9,10] H ?_|refine dV 15 [] [0,1,2,3,4,5,6,7,8,9] H ?_);clear H;intro w H;refine H.wg ?_;clear H;intro w H;exact⟨V3,_,_,_,⟨none,0,0⟩,rp,fg.trans aw,H.sx,rfl⟩
  | some px =>
   rw[Rb]at hres;obtain⟨rfl,cL⟩:=hres;refine wk ?_;(first|refine dV 4 [13] [0,1,2,3,4,5,6,7,8,9,10,11,12,13,14,15] H ?_|refine dV 12 [] [0,1,2,3,4,5,6,7,8,9,10,11,12,13,14,15,16,17,18] H ?_|refine dV 14 [] [0,1,2,3,4,5,6,7,8,9,10] H ?_|refine dV 15 [] [0,1,2,3,4,5,6,7,8,9] H ?_);clear H;intro w H;refine H.wg ?_;clear H;intro w H;exact⟨V3,0,0,0,r3,rp,fg.trans aw,H.sx,rfl,cL,vt.up aw⟩
theorem S0{x:qh}(h:oA l=some x):(1<=x.wd/\x.wd<=64)/\(1<=x.ht/\x.ht<=64)/\x.f<64/\kF x.f x.aH/\x.px.length<=12288:=by
 obtain⟨B,d,R,P⟩:=La h;have w:=P.wd;have t:=P.ht;have hm:x.ht*(3*x.wd)<=64*192:=lU t.2 (by have:=w.2;omega);exact⟨w,t,P.fl.1,P.aH,by rw[P.Gf.1];omega⟩
theorem Ve(hV:Sub V W){s:Sl}{l:ad}(hs:ay V s l)(hl:l.length<=1099511627776):aC 58 [s.v] W (l9 W V (br (gk l) l.length)):=by
 have H:=Rel.start hV;have hlen:=hs.len;refine eV Tryz.func58 39 [0,2,3,4,5,6,7,8,9,10,13,24,32] ?_;refine wk ?_;refine H.nA ?_;clear H;intro w b2 H;refine wk ?_;refine H.nA ?_;clear H;intro w b4 H;by_cases hbig:1000<l.length
 ·have e:br (gk l) l.length=⟨zeroV,[],3, -1⟩:=by unfold br;rw[if_pos hbig]
  rw[e];refine wk ?_;refine(Cb H.data 3 (-1)).use ?_;rintro v w⟨rfl,K⟩;(replace H:=H.az K);refine H.wg ?_;clear H;intro _ w H;exact⟨V,eR,⟨none,0,0⟩,Sub.refl _,H.sx,rfl,lu _,aB.nil _ _⟩
 refine wk ?_;refine(afp H.data hs aa).use ?_;rintro v w⟨V2,a,b,f,r,ps,hV2,K,hres⟩;(replace H:=H.az K);cases hf:oA l with
 | none =>
  rw[hf]at hres;obtain rfl:=hres;have e:br (gk l) l.length=⟨zeroV,[],21, -1⟩:=by unfold br;rw[if_neg hbig,gk,hf]
  rw[e];refine H.wg ?_;clear H;intro _ _ w H;refine(Cb H.data 21 (-1)).use ?_;rintro v w⟨rfl,K⟩;(replace H:=H.az K);refine H.wg ?_;clear H;intro _ w H;exact⟨V2,eR,⟨none,0,0⟩,hV2,H.sx,rfl,lu _,aB.nil _ _⟩
 | some x =>
  rw[hf]at hres;obtain⟨rfl,hpx,abm⟩:=hres;obtain⟨⟨m1,m2⟩,⟨m3,m4⟩,m5,m6,m7⟩:=S0 hf;refine wk ?_;refine H.nA ?_;clear H;intro w b8 H;refine H.wg ?_;clear H;intro w H;refine(ad7 H.data x.wd x.ht hpx aa).use ?_;rintro q w⟨V3,h,aw,K,rfl,hv⟩;(replace H:=H.az K);have hB:VB 1048576 (pL x.wd x.ht x.px):=Wc (by constructor<;>omega) (by constructor<;>omega) aa;refine wk ?_;refine H.nA ?_;clear H;intro w ix H;refine H.wg ?_;clear H;intro w H;refine(qe H.data hv hB).use ?_;rintro q w⟨rfl,K⟩;(replace H:=H.az K);by_cases bP:(bI (pL x.wd x.ht x.px)).1=0;rotate_left
  ·have e:br (gk l) l.length=⟨zeroV,[],21, -1⟩:=by unfold br;rw[if_neg hbig,gk,hf];simp only;rw[if_pos bP]
   rw[e];refine wk ?_;refine(Cb H.data 21 (-1)).use ?_;rintro v w⟨rfl,K⟩;(replace H:=H.az K);refine H.wg ?_;clear H;intro _ w H;exact⟨V3,eR,⟨none,0,0⟩,hV2.trans aw,H.sx,rfl,lu _,aB.nil _ _⟩
  have e:br (gk l) l.length=⟨pL x.wd x.ht x.px,oB x.f x.aH,0,0⟩:=by unfold br;rw[if_neg hbig,gk,hf];simp only;rw[if_neg (λq=>q bP)]
  rw[e,oQ bP];refine wk ?_;refine dV 7 [2] [0,1,3,2,4,5,6] H ?_;clear H;intro w H;refine wk ?_;refine(afI H.data m5 (abm.up aw) m6.le).use ?_;rintro v w⟨r2,rfl,K⟩;(replace H:=Rel.call H K);simp only[aL,aA]at H;refine H.wg ?_;clear H;intro _ w H;obtain⟨V6,cg,H,hr2⟩:=Rel.aT H (λ_=>rfl) ag;exact⟨V6,_,r2,(hV2.trans aw).trans cg,H.sx,rfl,hv.up cg,hr2⟩
end
section
variable{V W:ae}
theorem EP(hV:Sub V W)(c i:Int):aC 165 [iv c,iv i] W λv w'=>v=kg c i/\Rel W V [] V w':=by
 have H:=Rel.start hV;refine eV Tryz.func165 8 [0,1,4] ?_;refine H.wg ?_;clear H;intro _ _ w H;exact H.sx
theorem EJ(hV:Sub V W){fl:Nat}(hf:fl<4):aC 303 [iv (fl:Int)] W λv w'=>v=str (uZ (cC fl))/\Rel W V [] V w':=by
 have H:=Rel.start hV;obtain rfl|rfl|rfl|rfl:fl=0\/fl=1\/fl=2\/fl=3:=aa
 all_goals
  refine eV Tryz.func303 6 [0,2,5] ?_;refine wk ?_;exact H.sx
theorem Pg(hV:Sub V W){fl:Nat}(hf:fl<4):aC 254 [iv (fl:Int)] W λv w'=>v=str (cI fl)/\Rel W V [] V w':=by
 have H:=Rel.start hV;obtain rfl|rfl|rfl|rfl:fl=0\/fl=1\/fl=2\/fl=3:=aa
 all_goals
  refine eV Tryz.func254 6 [0,2,5] ?_;refine wk ?_;exact H.sx
theorem UQ(hV:Sub V W){s:Sl}{l:ad}(hs:ay V s l)(hl:l.length<=1000000):aC 304 [s.v] W λv w'=>v=.int .u8 ((j7 l%256:Nat):Int)/\Rel W V [] V w':=by
 have H:=Rel.start hV;have hlen:=hs.len;refine eV Tryz.func304 17 [0,2,3,5,6,7,8,9] ?_;refine wk ?_;refine aY (S:=Nat) ah [0,2,6,7] (λk=>[(3,.int .u8 ((j7 (l.take k)%256:Nat):Int)),(8,iv k)]) (λk w'=>k<=l.length/\Rel W V [] V w') (λk _=>l.length-k) 0 ?_;conv=>whnf
 refine⟨sB,⟨aa,H⟩,?_⟩;clear H;rintro k w⟨hk,H⟩;by_cases hlt:k<l.length
 ·obtain⟨p0,c0⟩:=hs.aX (g:=bv) (λ_=>rfl) hlt;have e:=ag4 hlt;obtain⟨x,hx⟩:∃x,x=j7 (l.take k):=⟨_,rfl⟩
  obtain⟨c,hc⟩:∃c,c=l[k]:=⟨_,rfl⟩
  rw[<-hx,<-hc]at e;rw[<-hc]at c0;rw[<-hx];refine wk ?_;refine⟨sB,k+1,⟨congrArg (λz=>some (Value.int .u8 z)) ?_,congrArg (λz=>some (iv z)) aa,trivial⟩,⟨aa,H⟩,aa⟩;rw[e];show(((x%256:Nat):Int)+(c.toNat:Int))%256=_;omega
 ·refine wk ?_;rw[bR aa];exact⟨rfl,H⟩
theorem wT(l:ad):(⟨l.toArray⟩:ByteArray).size=l.length:=by simp[ByteArray.size]
theorem Qm(hV:Sub V W)(s p:ad)(hs:s.length<=1000000000):aC 351 [str s,str p] W λv w'=>v=.bool (decide (s.take p.length=p))/\Rel W V [] V w':=by
 have H:=Rel.start hV;refine eV Tryz.func351 18 [0,1,4] ?_;refine wk ?_;rw[wT,wT];by_cases hl:p.length<=s.length
 ·refine wk ?_;rw[wT];refine wk ?_;exact H.sx
 ·have:s.take p.length≠p:=λq=>by
   have:=congrArg List.length q;rw[bb]at this;omega
  rw[decide_eq_false this];refine wk ?_;exact H.sx
theorem Yy(hV:Sub V W)(t:ad)(hs:t.length<=1000000):aC 301 [str (58::t),str [58]] W λv w'=>v=.tuple #[str t,.bool true]/\Rel W V [] V w':=by
 have H:=Rel.start hV;refine eV Tryz.func301 11 [0,1,4,5] ?_;refine wk ?_;refine eD.use (K:=λv w'=>v=.tuple #[str t,.bool true]/\Rel W V [] V w') ?_ ?_
 ·refine eV Tryz.func323 15 [0,1,4,5,9] ?_;refine wk ?_;refine(Qm H.data (58::t) [58] (by simp only[av];omega)).use ?_;rintro v w⟨rfl,K⟩;(replace H:=H.az K);rw[decide_eq_true (show(58::t).take ([58]:ad).length=[58]from rfl)];refine wk ?_;refine⟨⟨ag,by show(1:Int)<=((58::t).length:Nat);simp only[av];omega⟩,?_⟩;refine wk ?_;refine⟨?_,H.sx⟩;rw[fR];rfl
 rintro v w⟨rfl,K⟩;(replace H:=H.az K);refine wk ?_;exact H.sx
theorem Yx(hV:Sub V W)(s:ad)(hs:s.length<=1000000)(h:s.take 1≠[58]):aC 301 [str s,str [58]] W λv w'=>v=.tuple #[str s,.bool false]/\Rel W V [] V w':=by
 have H:=Rel.start hV;refine eV Tryz.func301 11 [0,1,4,5] ?_;refine wk ?_;refine eD.use (K:=λv w'=>v=.tuple #[str s,.bool false]/\Rel W V [] V w') ?_ ?_
 ·refine eV Tryz.func323 15 [0,1,4,5,9] ?_;refine wk ?_;refine(Qm H.data s [58] aa).use ?_;rintro v w⟨rfl,K⟩;(replace H:=H.az K);rw[decide_eq_false (show ¬s.take ([58]:ad).length=[58]from h)];refine wk ?_;exact H.sx
 rintro v w⟨rfl,K⟩;(replace H:=H.az K);refine wk ?_;exact H.sx
theorem adB:∀x,x<16->∀y,y<16->bN .or .i64 ((x*16:Nat):Int) ((y:Nat):Int)=((16*x+y:Nat):Int):=by decide +kernel
structure W4(W V:ae)(o:fx)(v:ao)(w':ae):Prop where
 ex:∃(V':ae) (r:Sl),Sub V V'/\Rel W V [] V' w'/\v=.tuple #[r.v,.bool o.isSome]/\∀raw,o=some raw->ay V' r raw
theorem afb(hV:Sub V W){fl:Nat}(hf:fl<4)(s:ad)(hs:s.length<=100000):aC 255 [str s,iv (fl:Int)] W (W4 W V (oG (cC fl) s)):=by
 have H:=Rel.start hV;refine eV Tryz.func255 77 [0,1,4,5,6,7,8,9,10,23,27,48] ?_;refine wk ?_;by_cases hp:s.take 1=[58]
 rotate_left
 ·refine(Yx H.data s aa hp).use ?_;rintro v w⟨rfl,K⟩;(replace H:=H.az K);have e:oG (cC fl) s=none:=by
   cases s with
   | nil=>rfl
   | cons c t=>rw[GF,if_neg λq=>hp (by rw[q.1];rfl)]
  rw[e];refine wk ?_;exact⟨V,⟨none,0,0⟩,Sub.refl _,H.sx,rfl,λ_ h=>by cases h⟩
 obtain⟨t,rfl⟩:∃t,s=58::t:=by
  cases s with
  | nil=>cases hp
  | cons c t =>
   have:c=58:=by simpa using hp
   exact⟨t,by rw[this]⟩
 rw[av]at hs;refine(Yy H.data t aa).use ?_;rintro v w⟨rfl,K⟩;(replace H:=H.az K);by_cases hpar:t.length%2=0;rotate_left
 ·have e:=ae4 (lo:=cC fl) hpar;refine wk ?_;rw[wT];rw[e];refine wk ?_;exact⟨V,⟨none,0,0⟩,Sub.refl _,H.sx,rfl,λ_ h=>by cases h⟩
 refine wk ?_;rw[wT];refine wk ?_;replace H:=H.cb 5 1;refine aY (S:=Nat×Sl×ad) ah [0,1,6,23] (λk=>[(7,k.2.1.v),(8,iv ((2*k.1:Nat):Int))]) (λk w'=>2*k.1<=t.length/\k.2.2.length=k.1/\dF (cC fl) k.2.2=t.take (2*k.1)/\Rel W V [.row k.2.1 5 1 (k.2.2.flatMap aE)] V w') (λk _=>t.length-k.1) (0,⟨none,0,0⟩,[]) ?_;conv=>whnf
 refine⟨sB,⟨aa,rfl,rfl,H⟩,?_⟩;clear H;rintro⟨k,r,raw⟩w⟨hk,hrl,xX,H⟩;dsimp only at hk hrl xX H |-;by_cases hlt:2*k<t.length
 ·have h1:2*k+1<t.length:=aa;have ij:∀j (hj:j<t.length),iA (cC fl) t[j]=none->oG (cC fl) (58::t)=none:=λj hj h=>ae3 hj h;refine wk ?_;rw[wT];refine wk ?_;have g0:t[(((2*k:Nat):Int)).toNat]?=some t[2*k]:=a8 hlt;have g1:t[(((2*k:Nat):Int)+1).toNat]?=some t[2*k+1]:=by rw[show(((2*k:Nat):Int)+1).toNat=2*k+1 by omega];exact a8 h1
  refine dV 8 [] [0,2,3,4,6,8,9,10,11,1,5,7,12,13,14] H ?_;clear H;intro w H;refine wk ?_;refine(EJ H.data hf).use ?_;rintro v w⟨rfl,K⟩;(replace H:=H.az K);refine wk ?_;refine(Av _ _ _).use ?_;rintro v w'⟨rfl,rfl⟩;refine wk ?_;refine(EJ H.data hf).use ?_;rintro v w⟨rfl,K⟩;(replace H:=H.az K);refine wk ?_;refine(Av _ _ _).use ?_;rintro v w'⟨rfl,rfl⟩;rw[show ∀c:UInt8,((c.toNat:Int)).toNat.toUInt8=c from λc=>by simp,show ∀c:UInt8,((c.toNat:Int)).toNat.toUInt8=c from λc=>by simp,O4,O4];refine wk ?_;cases hx:iA (cC fl) t[2*k]with
  | none =>
   have jB:=Qv.2 hx;have e:=ij _ hlt hx;generalize tJ (cC fl) t[2*k]=z at jB;rw[e];refine wk ?_;exact⟨V,⟨none,0,0⟩,Sub.refl _,H.sx,rfl,λ_ h=>by cases h⟩
  | some x =>
  cases hy:iA (cC fl) t[2*k+1]with
  | none =>
   have jB:=Jz hx;have tW:=Qv.2 hy;have e:=ij _ h1 hy;rw[jB];generalize tJ (cC fl) t[2*k+1]=z at tW;rw[e];refine wk ?_;exact⟨V,⟨none,0,0⟩,Sub.refl _,H.sx,rfl,λ_ h=>by cases h⟩
  | some y =>
  obtain⟨x1,x2⟩:=Fi hx;obtain⟨y1,y2⟩:=Fi hy;rw[Jz hx,Jz hy];refine wk ?_;rw[show(x:Int)*2^min (Int.toNat 4) IntKind.i64.bits=((x*16:Nat):Int)by show(x:Int)*16=_;omega];refine H.wg ?_;clear H;intro _ w H;rw[adB x x1 y y1,show Value.int .u8 (wr .u8 ((16*x+y:Nat):Int))=bv (UInt8.ofNat (16*x+y))by
   simp only[bv];rw[cH aa];congr 1;show((16*x+y:Nat):Int)%256=_;omega]at H
  refine Rel.dC (f:=aE) (l:=raw) (x:=UInt8.ofNat (16*x+y)) ah rfl rfl rfl rfl rfl ag (λ_=>rfl) (by simp[Value.oneCell',bv]) H (by show(raw.length+1)*1<=_;omega) aa ?_;clear H;intro r1 w H;refine wk ?_;refine⟨sB,(k+1,r1,raw++[UInt8.ofNat (16*x+y)]),⟨rfl,congrArg (λz=>some (iv z)) (by dsimp only;omega),trivial⟩,⟨by dsimp only;omega,by simp[hrl],?_,H⟩,by dsimp only;omega⟩;dsimp only;have e2:t.take (2*k+1+1)=t.take (2*k)++[t[2*k],t[2*k+1]]:=by
   rw[bZ h1,bZ hlt,bJ];rfl
  rw[<-aaP (k:=k) x1 y1,xX,show 2*(k+1)=2*k+1+1 by omega,e2,<-x2,<-y2]
 ·have fP:2*k=t.length:=aa;rw[fP,fR]at xX;obtain⟨V2,hV2,H,hr⟩:=Rel.aT H (λ_=>rfl) ag;have hrn:=hr.len;refine wk ?_;rw[wT];refine wk ?_;rw[<-xX,ae2];by_cases h5:5<=raw.length;rotate_left
  ·rw[if_neg λq=>h5 q.1];refine wk ?_;exact⟨V2,r,hV2,H.sx,rfl,λ_ h=>by cases h⟩
  obtain⟨p0,c0⟩:=hr.aX (g:=bv) (λ_=>rfl) (i:=0) aa;have tD:b8 raw 0=(raw[0]'aa).toNat:=by simp[b8,show 0<raw.length by omega]
  have ajb:=(raw[0]'aa).toNat_lt;by_cases h6:raw.length=5+b8 raw 0;rotate_left
  ·rw[if_neg λq=>h6 q.2.1];rw[tD]at h6;refine wk ?_;exact⟨V2,r,hV2,H.sx,rfl,λ_ h=>by cases h⟩
  have h6':=h6;rw[tD]at h6';refine wk ?_;refine(UQ H.data hr aa).use ?_;rintro v w⟨rfl,K⟩;(replace H:=H.az K);by_cases h7:j7 raw%256=0
  ·rw[if_pos ⟨h5,h6,h7⟩];refine wk ?_;rw[h7];exact⟨V2,r,hV2,H.sx,rfl,λ_ h=>by cases h;exact hr⟩
  ·rw[if_neg λq=>h7 q.2.2];refine wk ?_;exact⟨V2,r,hV2,H.sx,by rw[decide_eq_false aa];rfl,λ_ h=>by cases h⟩
end
section
open Go Go.RowKit Go.Shelf
def afx:Shelf.Ren:=⟨λx=>if x=145 then 253 else if x=217 then 324 else if x=219 then 322 else if x=220 then 300 else if x=224 then 338 else if x=225 then 334 else if x=266 then 331 else if x=267 then 350 else if x=314 then 372 else x,
 λx=>if x=3 then 3 else if x=4 then 4 else if x=5 then 5 else if x=9 then 9 else if x=46 then 132 else if x=51 then 321 else if x=59 then 311 else if x=146 then 391 else x,
 λx=>if x=1 then 2 else x⟩
theorem ab3:Lays.n145 Tryz.prog afx where
 mixed:=aj
 f145:=Tryz.func253.trans (congrArg some aj)
 f217:=Tryz.func324.trans (congrArg some aj)
 f219:=Tryz.func322.trans (congrArg some aj)
 f220:=Tryz.func300.trans (congrArg some aj)
 f224:=Tryz.func338.trans (congrArg some aj)
 f225:=Tryz.func334.trans (congrArg some aj)
 f266:=Tryz.func331.trans (congrArg some aj)
 f267:=Tryz.func350.trans (congrArg some aj)
 f314:=Tryz.func372.trans (congrArg some aj)
 t3:=Tryz.underlying3
 a3:=Tryz.isAgg3
 z3:=Tryz.sizeOf3
 v3:=Tryz.zeroValue3
 t4:=Tryz.underlying4
 a4:=Tryz.isAgg4
 z4:=Tryz.sizeOf4
 v4:=Tryz.zeroValue4
 t5:=Tryz.underlying5
 a5:=Tryz.isAgg5
 z5:=Tryz.sizeOf5
 v5:=Tryz.zeroValue5
 t9:=Tryz.underlying9
 a9:=Tryz.isAgg9
 z9:=Tryz.sizeOf9
 v9:=Tryz.zeroValue9
 t46:=Tryz.underlying132
 a46:=Tryz.isAgg132
 z46:=Tryz.sizeOf132
 v46:=Tryz.zeroValue132
 t51:=Tryz.underlying321
 a51:=Tryz.isAgg321
 z51:=Tryz.sizeOf321
 v51:=Tryz.zeroValue321
 t59:=Tryz.underlying311
 a59:=Tryz.isAgg311
 z59:=Tryz.sizeOf311
 v59:=Tryz.zeroValue311
 t146:=Tryz.underlying391
 a146:=Tryz.isAgg391
 z146:=Tryz.sizeOf391
 v146:=Tryz.zeroValue391
 g1:=aj
def s6(V:ae):Prop:=∃m:Int,V.cell? ⟨2,0,none⟩=some (.int .i64 m)
theorem s6.up{V':ae}(h:s6 V)(k:Sub V V'):s6 V':=by
 obtain⟨m,hm⟩:=h;exact⟨m,k.cell hm⟩
theorem YS(hV:Sub V W)(hM:s6 V)(s sep:ad)(hs:s.length<4294967281):aC 253 [str s,str sep] W λv w'=>v=.tuple #[str (Lib.cut s sep).1,str (Lib.cut s sep).2.1,.bool (Lib.cut s sep).2.2]/\Rel W V [] V w':=by
 obtain⟨m,hm⟩:=hM.up hV;refine eD.sF Tryz.func253 aj aj (Calls.lM (Any.strings_Cut ab3 ⟨s.toArray⟩ ⟨sep.toArray⟩ m W (by show s.toArray.size<_;simpa using hs) hm) λe w' ⟨he,n,hw⟩=>⟨_,he,rfl,?_⟩);subst hw;exact Rel.ext (Rel.start hV) ⟨rfl,rfl,rfl,aK _,λ_ _=>rfl⟩
end
abbrev lg(h:Nat×Sl):aD:=[iv (h.1:Int),h.2.v]
abbrev oV(V:ae)(h:Nat×Sl)(s:bH):Prop:=h.1=s.1/\ay V h.2 s.2
theorem oV.up:∀(V V':ae) (x:Nat×Sl) (y:bH),Sub V V'->oV V x y->oV V' x y:=λ_ _ _ _ k h=>⟨h.1,h.2.up k⟩
structure oX(V:ae)(S:List bH)(hs:List (Nat×Sl))(dl:Sl)(d:ad):Prop where
 ex:(S=[]/\hs=[])\/∃(P:List bH) (a:Nat) (hP:List (Nat×Sl)),S=P++[(a,d)]/\hs=hP++[(a,dl)]/\Pw oV V hP P
theorem oX.up{V V':ae}{S:List bH}{hs:List (Nat×Sl)}{dl:Sl}{d:ad}(h:oX V S hs dl d)(k:Sub V V'):oX V' S hs dl d:=by
 rcases h.ex with h|⟨P,a,hP,h1,h2,h3⟩
 ·exact⟨.inl h⟩
 ·exact⟨.inr ⟨P,a,hP,h1,h2,h3.up oV.up k⟩⟩
theorem oX.len{V:ae}{S:List bH}{hs:List (Nat×Sl)}{dl:Sl}{d:ad}(h:oX V S hs dl d):hs.length=S.length:=by
 rcases h.ex with⟨h1,h2⟩|⟨P,a,hP,h1,h2,h3⟩
 ·rw[h1,h2];rfl
 ·rw[h1,h2,aq,aq,h3.len];rfl
theorem oX.all(h:oX V S hs dl d)(hd:ay V dl d):Pw oV V hs S:=by
 rcases h.ex with⟨h1,h2⟩|⟨P,a,hP,h1,h2,h3⟩
 ·rw[h1,h2];exact Pw.nil
 ·rw[h1,h2];exact h3.snoc ⟨rfl,hd⟩
theorem Rel.agU{w0 V0:ae}{own:bU}(H:Rel w0 V0 own V w){i sz:Nat}{s:Sl}{e:TypeId}{xs:aD}(hi:own[i]?=some (.row s e sz xs))(j:Nat)(hj:j<s.len*sz){b o:Nat}(hb:b=bD s.a)(ho:o=bw s.a+j){v:ao}{k:ae->Prop}
  (hk:∀w',Rel w0 V0 (own.set i (.row s e sz (xs.set j v))) V w'->k w'):∃c t',nR w b c t'/\fS c o [v] λc'=>∀w',ma w b c' t' w'->k w':=by
 have hr:=H.rowAt hi;rcases hr.at_ with⟨_,h2,_⟩|⟨b0,cur,h1,h2,h3,h4,h5,h6⟩
 ·rw[h2,Nat.zero_mul]at hj;omega
 ·rw[h1]at hb ho;simp only[bD,bw,Nat.zero_add]at hb ho;subst hb ho;have hbl:nR w b cur.toList e:=h2;have hle:=Nat.mul_le_mul_right sz h3;refine⟨cur.toList,e,hbl,GJ (by rw[Array.length_toList,h5];omega) λw' hu=>hk w' ?_⟩;have hu':=hu;obtain⟨fz,cs,vx,rfl⟩:=hu.wd;refine H.put hi rfl rfl rfl ai (λk _ hk=>hu'.other λe=>hk (by rw[e];simp[aN.at_,h1])) ⟨by rw[List.length_set,hr.len],.inr ⟨b,(cur.toList.set o v).toArray,h1,hu'.row hbl ai,h3,h4,by simp[h5],?_⟩⟩ λk hk=>.inl hk;rw[<-h6];simp[List.take_set]
theorem ags(hP:List (Nat×Sl))(x:Nat)(a b:Sl):((hP++[(x,a)]).flatMap lg).set (hP.length*2+1) b.v=(hP++[(x,b)]).flatMap lg:=by
 have hl:(hP.flatMap lg).length=hP.length*2:=pf (n:=2) (λ_=>rfl) hP;rw[bT,bT,List.set_append_right _ _ aa,hl,show hP.length*2+1-hP.length*2=1 by omega];rfl
section
variable{V W:ae}
theorem Xj{w0 V0:ae}{bx b4:Nat}{c4:aD}{t4:TypeId}{sz sg c:Sl}{Z:au}{cs:ad}{fl:Nat}
  (H:Rel w0 V0 [.row sz 3 1 ((ints Z).flatMap cK),.row sg 316 2 (hs.flatMap lg),.row dl 5 1 (d.flatMap aE),.ax bx [sg.v,sz.v,iv (fl:Int)] 211,.ax b4 c4 t4] V W)
  (hS:oX V S hs dl d) (tB:S.length<=100000) (ni:Z.length<=100000) (hdl:d.length<=100000) (hc:ay V c cs) (hcl:cs.length<=1000) (ha:a<=65536) (hok:mP S) :
  aC 256 [.pointer (some ⟨bx,0,none⟩),iv (a:Int),c.v] W λ_ w'=>∃(V':ae) (sz' p5 rR:Sl) (hs':List (Nat×Sl)) (d':ad),Sub V V'/\oX V' (oZ a cs S) hs' rR d' /\
   Rel w0 V0 [.row sz' 3 1 ((ints (Z++[cs.length])).flatMap cK),.row p5 316 2 (hs'.flatMap lg),.row rR 5 1 (d'.flatMap aE),.ax bx [p5.v,sz'.v,iv (fl:Int)] 211,.ax b4 c4 t4] V' w':=by
 generalize hw0:W=wz at H;subst hw0;have tG:=hc.len;have Aj:=hS.len;have hsl:=H.gn (i:=1) rfl (λ_=>rfl) ag;have eE:(ints Z).length=Z.length:=ai;refine eV Tryz.func256 67 [0,1,2,6,7,25,44] ?_;refine H.wg ?_;clear H;intro _ w H;refine Rel.dC (f:=cK) (l:=ints Z) (x:=(c.len:Int)) ah rfl rfl rfl rfl rfl ag (λ_=>rfl) (by simp[Value.oneCell']) H (by show((ints Z).length+1)*8<=_;omega) aa ?_;clear H;intro sz' w H;rw[show ints Z++[(c.len:Int)]=ints (Z++[cs.length])by simp[tG]]at H;refine H.wg ?_;clear H;intro w H;rcases hS.ex with⟨rfl,rfl⟩|⟨P,x,hP,rfl,rfl,Co⟩
 ·have ajm:sg.len=0:=by simpa using hsl
  refine wk ?_;(first|refine dV 4 [] [0,1,2,3,4,5,6,7,8,9,10,11] H ?_|refine dV 6 [7,9] [0,1,2,3,4,5,6,7,8,9,10,11,12,13] H ?_);clear H;intro w H;refine wk ?_;refine(uU H.data hc aa).use ?_;rintro v w⟨r,rfl,K⟩;(replace H:=Rel.call H K);simp only[aL,aA]at H;refine H.wg ?_;clear H;intro _ w H;refine Rel.uN (f:=lg) (l:=[]) (x:=(a,r)) ah rfl rfl rfl rfl rfl ag (λ_=>rfl) (by simp[Value.oneCell']) H (by show(0+1)*32<=_;omega) ai ?_;clear H;intro p5 w H;refine H.wg ?_;clear H;intro w H;have H0:Rel w0 V0 [.row dl 5 1 (d.flatMap aE),.row sz' 3 1 ((ints (Z++[cs.length])).flatMap cK),.row p5 316 2 ([(a,r)].flatMap lg),.row r 5 1 (cs.flatMap aE),.ax bx [p5.v,sz'.v,iv (fl:Int)] 211,.ax b4 c4 t4] V w:=H.pick;obtain⟨V2,hV2,H,hd⟩:=Rel.aT H0 (λ_=>rfl) ag;exact⟨V2,sz',p5,r,[(a,r)],cs,hV2,⟨.inr ⟨[],a,[],by rw[HO];rfl,rfl,Pw.nil⟩⟩,H⟩
 ·have hpn:=Co.len;rw[aq,cQ]at hsl tB;have hpl:Plain sg.a:=((H.eG (i:=1) rfl (λ_=>rfl) ag).fM (g:=λh:Nat×Sl=>iv (h.1:Int)) (g':=λh:Nat×Sl=>h.2.v) (λ_=>rfl) (i:=hP.length) ai).1;have eI:(((sg.len:Nat):Int)-1).toNat=hP.length:=aa;have gl:(hP++[(x,dl)])[hP.length]'(by simp)=(x,dl):=ai;have JB:=H.gn (i:=2) rfl (λ_=>rfl) ag;have hx:x<65536:=(hok (x,d) ai).1;refine wk ?_;(first|refine dV 4 [] [0,1,2,3,4,5,6,7,8,9,10,11] H ?_|refine dV 6 [7,9] [0,1,2,3,4,5,6,7,8,9,10,11,12,13] H ?_);clear H;intro w H;refine wk ?_;rw[eI];obtain⟨_,u1,u2⟩:=(H.eG (i:=1) rfl (λ_=>rfl) ag).fM (g:=λh:Nat×Sl=>iv (h.1:Int)) (g':=λh:Nat×Sl=>h.2.v) (λ_=>rfl) (i:=hP.length) ai;rw[gl]at u1 u2;dsimp only at u1 u2;refine⟨_,u1,?_⟩;refine wk ?_;by_cases he:x+d.length=a
  ·refine wk ?_;refine Rel.eJ H (i:=2) rfl hc aa ?_;clear H;intro rR w H;simp only[bC,iR]at H;refine wk ?_;refine Rel.agU (i:=1) H rfl (hP.length*2+1) aa rfl rfl ?_;clear H;intro w H;simp only[bC,iR]at H;rw[show((hP++[(x,dl)]).flatMap lg).set (hP.length*2+1) rR.v=(hP++[(x,rR)]).flatMap lg from ags hP x dl rR]at H;refine wk ?_;refine⟨V,sz',sg,rR,hP++[(x,rR)],d++cs,Sub.refl _,⟨.inr ⟨P,x,hP,?_,rfl,Co⟩⟩,H⟩;rw[BF,if_pos he]
  ·refine wk ?_;(first|refine dV 4 [] [0,1,2,3,4,5,6,7,8,9,10,11] H ?_|refine dV 6 [7,9] [0,1,2,3,4,5,6,7,8,9,10,11,12,13] H ?_);clear H;intro w H;refine wk ?_;refine(uU H.data hc aa).use ?_;rintro v w⟨r,rfl,K⟩;(replace H:=Rel.call H K);simp only[aL,aA]at H;refine H.wg ?_;clear H;intro _ w H;refine Rel.uN (f:=lg) (l:=hP++[(x,dl)]) (x:=(a,r)) ah rfl rfl rfl rfl rfl ag (λ_=>rfl) (by simp[Value.oneCell']) H (by show((hP++[(x,dl)]).length+1)*32<=_;rw[aq,cQ];omega) (by rw[aq,cQ];omega) ?_;clear H;intro p5 w H;refine H.wg ?_;clear H;intro w H;have H0:Rel w0 V0 [.row dl 5 1 (d.flatMap aE),.row sz' 3 1 ((ints (Z++[cs.length])).flatMap cK),.row p5 316 2 ((hP++[(x,dl)]++[(a,r)]).flatMap lg),.row r 5 1 (cs.flatMap aE),.ax bx [p5.v,sz'.v,iv (fl:Int)] 211,.ax b4 c4 t4] V w:=H.pick;obtain⟨V2,hV2,H,hd⟩:=Rel.aT H0 (λ_=>rfl) ag;refine⟨V2,sz',p5,r,hP++[(x,dl)]++[(a,r)],cs,hV2,⟨.inr ⟨P++[(x,d)],a,hP++[(x,dl)],?_,rfl,?_⟩⟩,H⟩
   ·rw[BF,if_neg he]
   ·exact(Co.up oV.up hV2).snoc ⟨rfl,hd⟩
end
def oW(V:ae)(s:Sl)(S:List bH):Prop:=∃hs,aB lg V s hs/\Pw oV V hs S
theorem oW.up{V V':ae}{s:Sl}{S:List bH}(h:oW V s S)(k:Sub V V'):oW V' s S:=by
 obtain⟨hs,h1,h2⟩:=h;exact⟨hs,h1.up k,h2.up oV.up k⟩
theorem oW.len{V:ae}{s:Sl}{S:List bH}(h:oW V s S):s.len=S.length:=by
 obtain⟨hs,h1,h2⟩:=h;rw[h1.len,h2.len]
theorem oX.Y8(h:oX V S hs dl d)(hne:S≠[])(hok:mP S):d.length<=65536:=by
 rcases h.ex with⟨h1,_⟩|⟨P,a,hP,h1,_,_⟩
 ·exact absurd h1 hne
 ·have:=hok (a,d) (by rw[h1];simp);dsimp only at this;omega
theorem Xi(a:Nat)(c:ad)(S:List bH):oZ a c S≠[]/\(oZ a c S).length<=S.length+1:=by
 rcases List.eq_nil_or_concat S with rfl|⟨P,x,rfl⟩
 ·rw[HO];exact⟨ai,ai⟩
 ·rw[List.concat_eq_append,BF];split
  ·exact⟨ai,ai⟩
  ·exact⟨ai,ai⟩
structure WL(W V:ae)(fl:Nat)(o:Option (List bH×au))(v:ao)(w':ae):Prop where
 ex:∃(V':ae) (sg sz:Sl) (c:Int) (k:Bool),Sub V V'/\Rel W V [] V' w'/\v=.tuple #[.agg #[sg.v,sz.v,iv c],.bool k]/\(match o with
  | none=>k=false
  | some (S,Z)=>k=true/\c=fl/\oW V' sg S/\aB cK V' sz (ints Z))
theorem aeU{raw:ad}(h:kB raw):(raw.take (raw.length-1)).drop 4=la raw:=by
 have:=h.2.1;unfold la;rw[List.drop_take,show raw.length-1-4=b8 raw 0 by omega]
section
variable{V W:ae}
theorem afn(hV:Sub V W)(hM:s6 V){s:Sl}{l:ad}(hs:ay V s l)(hl:l.length<=1000){fl:Nat}(hf:fl<4):aC 166 [s.v,iv (fl:Int)] W (WL W V fl (xH fl l)):=by
 have H:=Rel.start hV;have hlen:=hs.len;refine eV Tryz.func166 92 [0,1,4,5,6,7,8,9,10,11,12,13,14,28,37,58,73] ?_;refine wk ?_;refine H.nA ?_;clear H;intro w b4 H;refine wk ?_;refine H.nA ?_;clear H;intro w b6 H;refine H.wg ?_;clear H;intro w H;refine⟨fc _▸(hs.up H.data).cells,?_⟩;refine wk ?_;replace H:=H.cb 5 1;replace H:=H.cb 316 2;replace H:=H.cb 3 1
 refine aY (S:=ad×List bH×au×List (Nat×Sl)×Sl×Sl×Sl×ad) ah [0,1,4,6] (λq=>[(7,str q.1)]) (λq w'=>∃V3,Sub V V3/\oX V3 q.2.1 q.2.2.2.1 q.2.2.2.2.2.2.1 q.2.2.2.2.2.2.2/\mP q.2.1/\xH fl l=vV fl q.2.1 q.2.2.1 q.1/\q.2.2.1.length+q.1.length<=l.length/\q.2.1.length<=q.2.2.1.length/\q.2.2.2.2.2.2.2.length<=65536 /\
  Rel W V [.row q.2.2.2.2.1 3 1 ((ints q.2.2.1).flatMap cK),.row q.2.2.2.2.2.1 316 2 (q.2.2.2.1.flatMap lg),.row q.2.2.2.2.2.2.1 5 1 (q.2.2.2.2.2.2.2.flatMap aE),.ax b6 [q.2.2.2.2.2.1.v,q.2.2.2.2.1.v,iv (fl:Int)] 211,.ax b4 [.slice none 0 0,.slice none 0 0,iv 0] 211] V3 w') (λq _=>q.1.length) (l,[],[],[],⟨none,0,0⟩,⟨none,0,0⟩,⟨none,0,0⟩,[]) ?_
 conv=>whnf
 refine⟨sB,⟨V,Sub.refl _,⟨.inl ⟨rfl,rfl⟩⟩,by intro s hs;simp at hs,rfl,ai,ai,ai,H⟩,?_⟩;clear H;rintro⟨rest,S,Z,gs,sz,sg,dl,d⟩w⟨V3,aw,hS,hok,bF,hZr,hSZ,hdl,H⟩;dsimp only at hS hok bF hZr hSZ hdl H |-;refine wk ?_;refine(Pg H.data hf).use ?_;rintro v w⟨rfl,K⟩;(replace H:=H.az K);refine wk ?_;refine(YS H.data (hM.up aw) rest (cI fl) aa).use ?_;rintro v w⟨rfl,K⟩;(replace H:=H.az K);have kT:=Lib.index_ge rest (cI fl);by_cases hi:Lib.index rest (cI fl) = -1
 ·have e:Lib.cut rest (cI fl)=(rest,[],false):=by unfold Lib.cut;rw[if_neg aa]
  rw[e];dsimp only;rw[bF,(T4 (ae0 hi))];refine H.wg ?_;clear H;intro w H;exact⟨V3,⟨none,0,0⟩,⟨none,0,0⟩,0,false,aw,H.sx,rfl,rfl⟩
 obtain⟨i,hi⟩:∃i:Nat,Lib.index rest (cI fl)=i:=⟨(Lib.index rest (cI fl)).toNat,aa⟩
 obtain⟨Q5,eE⟩:=RA hi;have e:Lib.cut rest (cI fl)=(rest.take i,rest.drop (i+(cI fl).length),true):=by unfold Lib.cut;rw[if_pos aa,hi];rfl
 rw[e];dsimp only;have hcut:=aeZ hi Q5;obtain⟨nx,jc⟩:∃nx,nx=rest.drop (i+(cI fl).length):=⟨_,rfl⟩
 have hnl:nx.length+1<=rest.length:=by
  have h1:1<=(cI fl).length:=by unfold cI;split<;>simp
  rcases Lib.occAt_room Q5 with h|h
  ·rw[jc,List.length_drop];omega
  ·rw[h]at h1;simp at h1
 rw[<-jc]at hcut |-;refine wk ?_;refine(afb H.data hf (rest.take i) (by rw[bb];omega)).use ?_;rintro v w⟨V4,rb,aG,K,rfl,gW⟩;(replace H:=H.az K);have oc:=aw.trans aG;cases hrs:oG (cC fl) (rest.take i)with
 | none =>
  rw[hrs]at hcut;rw[bF,(T4 hcut)];refine H.wg ?_;clear H;intro w H;exact⟨V4,⟨none,0,0⟩,⟨none,0,0⟩,0,false,oc,H.sx,rfl,rfl⟩
 | some raw =>
 rw[hrs]at hcut;have jz:=gW raw hrs;obtain⟨_,Kc⟩:=GH.1 hrs;have hrl:=jz.len;have je:=jz.cap;have⟨r5,r6,_⟩:=Kc;obtain⟨p0,c1⟩:=jz.aX (g:=bv) (λ_=>rfl) (i:=1) aa;obtain⟨_,c2⟩:=jz.aX (g:=bv) (λ_=>rfl) (i:=2) aa;obtain⟨_,c3⟩:=jz.aX (g:=bv) (λ_=>rfl) (i:=3) aa;have fE:b8 raw 1=(raw[1]'aa).toNat:=by simp[b8,show 1<raw.length by omega]
 have lE:b8 raw 2=(raw[2]'aa).toNat:=by simp[b8,show 2<raw.length by omega]
 have hb3:b8 raw 3=(raw[3]'aa).toNat:=by simp[b8,show 3<raw.length by omega]
 have hat:jm raw=256*(raw[1]'aa).toNat+(raw[2]'aa).toNat:=by unfold jm;rw[fE,lE]
 have Kh:=jz.sub (n:=1) (λ_=>rfl) (a:=4) (b:=raw.length-1) aa aa;rw[aeU Kc]at Kh;have hcl:=TT Kc;have tD:b8 raw 0<=255:=Nat.le_of_lt_succ (raw[0]?.getD 0).toNat_lt;generalize raw[1]=x1 at c1 hat;generalize raw[2]=x2 at c2 hat;generalize raw[3]=x3 at c3 hb3;have l1:=x1.toNat_lt;have l2:=x2.toNat_lt;have l3:=x3.toNat_lt;have iN:=yu l1 l2;rw[<-hat]at iN;have ajh:jm raw<65536:=aa;refine wk ?_;refine dV 10 [] [0,1,2,3,4,5,6,7,8,9,10,11,12,13,14,15,16,17,18,19,20] H ?_;clear H;intro w H;refine wk ?_;rw[iF];refine wk ?_;rw[iN];by_cases hk:b8 raw 3=1
 ·have QB:=ae9 (S:=S) (Z:=Z) hcut hk;have Kn:x3.toNat=1:=by rw[<-hb3];exact hk
  obtain⟨V5,aQ,H,hz⟩:=Rel.aT H (λ_=>rfl) ag;obtain⟨V6,cg,H,hg⟩:=Rel.aT H (λ_=>rfl) ag;obtain⟨V7,dQ,H,hd⟩:=Rel.aT H (λ_=>rfl) ag;have E8:=(oc.trans aQ).trans (cg.trans dQ);have x5:oW V7 sg S:=⟨gs,hg.up dQ,(((hS.up aG).up aQ).up (cg.trans dQ)).all hd⟩
  rw[bF,QB];by_cases c0:b8 raw 0=0;rotate_left
  ·rw[if_neg (λq=>c0 q.1)];refine H.wg ?_;clear H;intro w H;exact⟨V7,sg,sz,fl,false,E8,H.sx,rfl,rfl⟩
  by_cases c1:jm raw=0;rotate_left
  ·rw[if_neg (λq=>c1 q.2.1)];refine H.wg ?_;clear H;intro w H;exact⟨V7,sg,sz,fl,false,E8,H.sx,rfl,rfl⟩
  by_cases c2:nx=[]
  ·rw[if_pos ⟨c0,c1,c2⟩];refine H.wg ?_;clear H;intro w H;exact⟨V7,sg,sz,fl,true,E8,H.sx,by rw[decide_eq_true c2],rfl,rfl,x5,(hz.up cg).up dQ⟩
  ·rw[if_neg (λq=>c2 q.2.2)];refine H.wg ?_;clear H;intro w H;exact⟨V7,sg,sz,fl,false,E8,H.sx,by rw[decide_eq_false c2],rfl⟩
 ·have iL:=ae8 (S:=S) (Z:=Z) hcut hk;have Kn:x3.toNat≠1:=by rw[<-hb3];exact hk
  by_cases d1:b8 raw 3=0;rotate_left
  ·have abA:x3.toNat≠0:=by rw[<-hb3];exact d1
   rw[if_neg (λq=>d1 q.1)]at iL;rw[bF,iL];refine H.wg ?_;clear H;intro w H;exact⟨V4,⟨none,0,0⟩,⟨none,0,0⟩,0,false,oc,H.sx,rfl,rfl⟩
  have abA:x3.toNat=0:=by rw[<-hb3];exact d1
  by_cases d2:b8 raw 0=0
  ·rw[if_neg (λq=>q.2.1 d2)]at iL;rw[bF,iL];refine H.wg ?_;clear H;intro w H;exact⟨V4,⟨none,0,0⟩,⟨none,0,0⟩,0,false,oc,H.sx,rfl,rfl⟩
  by_cases d3:jm raw+b8 raw 0<=65536;rotate_left
  ·rw[if_neg (λq=>d3 q.2.2)]at iL;rw[bF,iL];refine H.wg ?_;clear H;intro w H;exact⟨V4,⟨none,0,0⟩,⟨none,0,0⟩,0,false,oc,H.sx,rfl,rfl⟩
  rw[if_pos ⟨d1,d2,d3⟩]at iL;have tG:la raw≠[]:=by
   intro q;rw[q]at hcl;simp at hcl;omega
  refine wk ?_;rw[show(((rb.len:Nat):Int)-1).toNat=raw.length-1 by omega];refine(Xj (a:=jm raw) H (hS.up aG) aa aa aa Kh aa aa hok).use ?_;clear H;rintro v w⟨V5,sz',p5,rR,gs',d',aQ,Qh,H⟩;rw[hcl]at H;have Q6:=Uu (a:=jm raw) hok tG aa;obtain⟨n1,n2⟩:=Xi (jm raw) (la raw) S;refine wk ?_;exact⟨sB,(nx,oZ (jm raw) (la raw) S,Z++[b8 raw 0],gs',sz',p5,rR,d'),sB,⟨V5,oc.trans aQ,Qh,Q6,by dsimp only;rw[bF,iL],by dsimp only;rw[aq,cQ];omega,by dsimp only;rw[aq,cQ];omega,Qh.Y8 n1 Q6,H⟩,by dsimp only;omega⟩
end
def aN.vy(B:Nat):aN->Bool
 | .obj b o=>decide (b<B)&&AD o
 | _=>true
abbrev qq(D:Nat):aN:=.obj D (.deferred (some []))
abbrev Ig(D:Nat):Deferred:={ target:=.collected D,args:=#[] }
theorem O5{Ds:au}(h:∀D∈Ds,D<B):(Ds.map qq).all (aN.vy B)=true:=by
 rw[List.all_map,bj];intro D hD;show(decide (D<B)&&AD _)=true;rw[decide_eq_true (h D hD)];rfl
section
variable{w0 V0 V w:ae}{own:bU}
theorem Rel.MR(H:Rel w0 V0 own V w)(hc:own.all (aN.vy B)=true)(hB:w0.heap.size<=B){w':ae}(ht:Tw B w w'):Rel w0 V0 own V w':=by
 refine⟨⟨ht.os.trans H.base.os,ht.tape.trans H.base.tape,ht.output.trans H.base.output,sJ H.base.size ht.size,λk hk=>(ht.low k aa).trans (H.base.block k hk)⟩,H.sub,H.old,λr hr=>?_,H.new,H.hid,H.apart,⟨λb c t f hb=>ht.bE _ _ _ _ (H.data.bE b c t f hb)⟩⟩;have h1:=H.laid r hr;have h2:=bj.1 hc r hr;cases r with
 | ax b l t=>exact di.tw h1 ht
 | row s e sz xs=>exact Row.Vt h1 ht
 | obj b o =>
  simp only[aN.vy,dM,decide_eq_true_eq]at h2;exact(ht.low b h2.1).trans h1
theorem Rel.acR(H:Rel w0 V0 own V w){B:Nat}(hc:own.all (aN.vy B)=true)(hB:w0.heap.size<=B):∃X:bU,Rel w0 V0 (own++X) V w/\∀w',(∀r∈X,r.laid w')->l8 B w w':=by
 refine⟨(List.range w.heap.size).filterMap (AA w B),⟨H.base,H.sub,H.old,?_,?_,?_,?_,H.data⟩,?_⟩
 ·intro r hr;rcases cq.1 hr with hr|hr
  ·exact H.laid r hr
  ·obtain⟨j,_,hj⟩:=sM.1 hr;obtain⟨o,ho,_,_,rfl⟩:=pE hj;exact ho
 ·intro r hr b hb;rcases cq.1 hr with hr|hr
  ·exact H.new r hr b hb
  ·obtain⟨j,_,hj⟩:=sM.1 hr;obtain⟨o,ho,Cf,_,rfl⟩:=pE hj;cases hb;omega
 ·intro r hr b hb;rcases cq.1 hr with hr|hr
  ·exact H.hid r hr b hb
  ·obtain⟨j,_,hj⟩:=sM.1 hr;obtain⟨o,ho,Cf,hn,rfl⟩:=pE hj;cases hb;intro c t f hv;have:=H.data.bE _ _ _ _ hv;rw[ho]at this;cases this;cases hn
 ·refine ue.2 ⟨H.apart,?_,λr hr s hs b hb gK=>?_⟩
  ·rw[List.pairwise_filterMap];refine List.Pairwise.imp ?_ List.nodup_range;intro i j xL r hr s hs b hb gK;obtain⟨o,ho,_,_,rfl⟩:=pE hr;obtain⟨o',lI,_,_,rfl⟩:=pE hs;cases hb;cases gK;exact xL rfl
  ·obtain⟨j,_,hj⟩:=sM.1 hs;obtain⟨o,ho,Cf,hn,rfl⟩:=pE hj;cases gK;have Jw:=bj.1 hc r hr;have hl:=H.laid r hr;cases r with
   | obj b' o' =>
    simp only[aN.vy,dM,decide_eq_true_eq]at Jw;cases hb;omega
   | ax b' l t =>
    obtain⟨c,t,f,hcell⟩:=aN.cell_of rfl hl hb;rw[ho]at hcell;cases hcell;cases hn
   | row s e sz xs =>
    obtain⟨c,t,f,hcell⟩:=aN.cell_of rfl hl hb;rw[ho]at hcell;cases hcell;cases hn
 ·intro w' hX j o hj ho hn;have hlt:=(jG.1 ho).1;have hno:AD o=true:=by
   cases o with
   | cells c t f=>exact absurd rfl (hn c t f)
   | _=>rfl
  exact hX (.obj j o) (sM.2 ⟨j,sN.2 hlt,by simp[AA,ho,hj,hno]⟩)
theorem Rel.Sg{k:ae->Prop}(hc:own.all aN.vz=true):∀ {Ds:au} {w:ae},Ds.Pairwise (λa b=>b<a)->Rel w0 V0 (own++Ds.map qq) V w->(∀w',Rel w0 V0 own V w'->k w')->tZ (Ds.map Ig) w k
 | [],w,_,H,hk=>hk w (by simpa using H)
 | D::Ds,w,hp,H,hk=>by
  obtain⟨h1,h2⟩:=lS.1 hp;have hm:aN.obj D (.deferred (some []))∈own++(D::Ds).map qq:=ai;refine⟨H.laid _ hm,λw' ht=>Rel.Sg hc h2 (Rel.MR (B:=D) (H.sl (own':=own++Ds.map qq) ?_) ?_ (H.new _ hm D rfl) ht) hk⟩
  ·exact(pO own).append (List.sublist_cons_self _ _)
  ·rw[List.all_append,O5 h1,Bool.and_true,bj];intro r hr;have:=bj.1 hc r hr;cases r with
   | obj b o=>cases this
   | _=>rfl
end
theorem acm(hT:bK C.P C.T){c:Code}{env:Env}{ds:List Deferred}{w:ae}{Q:ic}{S:Type}(ks:au)(vars:S->Env)(D:S->List Deferred)
  (I:S->ae->Prop) (μ:S->ae->Nat) (s0:S) (hd0:ds=D s0)
  (h:nG env ks λjC=>p8 env (vars s0)/\I s0 w/\∀s w,I s w->ia C c (vars s++jC) (D s) w λe aJ ds' w'=>(match e with
   | .normal=>p8 aJ jC/\∃s',ds'=D s'/\p8 aJ (vars s')/\I s' w'/\μ s' w'<μ s w
   | e=>Q e aJ ds' w')):aP C (.loop c) env ds w Q:=by
 obtain⟨jC,hk,h0,hI,hr⟩:=sI h;have app:∀ {e1 e2:Env} {t:Nat} {v:ao},get? (e1++e2) t=some v->get? e1 t=some v\/get? e2 t=some v:=by
  intro e1 e2 t v h;induction e1 with
  | nil=>exact .inr h
  | cons p r ih =>
   obtain⟨s,u⟩:=p;simp only[aL,get?]at h |-;cases e:Nat.beq s t with
   | true=>simp only[e]at h |-;exact .inl h
   | false=>simp only[e]at h |-;exact ih h
 refine⟨λa hs hn hd=>?_⟩
 refine Wn (λs a w=>a.tmps.size=C.n/\a.defers=D s/\Sat (vars s++jC) a.tmps/\I s w) μ s0
  ⟨hn,hd.trans hd0,λt v h=>(app h).elim (λh=>hs t v (sT h0 t v h)) (λh=>hs t v (hk t v h)),hI⟩ ?_
 rintro s a w⟨hn,hd,hs,hI⟩;refine wpIn_mono ((sY hT (hr s w hI)).out a hs hn hd) λe a' w' ⟨h1,aJ,h2,h3⟩=>?_;cases e with
 | normal =>
  obtain⟨h8,s',h4,h5,h6,h7⟩:=h3;exact⟨s',⟨h1,h4,λt v h=>(app h).elim (λh=>h2 t v (sT h5 t v h)) (λh=>h2 t v (sT h8 t v h)),h6⟩,h7⟩
 | _=>exact⟨h1,aJ,h2,h3⟩
theorem aeV(hT:bK C.P C.T)(hro:C.r=none){g:Operand}{ps:Array Tmp}{assign body:Code}{env:Env}{ds:List Deferred}{w:ae}{Q:ic}{gf:Nat}{lb:aD}{w0 V0 V:ae}
  (hg:cA env g λv=>v=.func (.func gf) #[] lb.toArray) {xs:List aD} (hit:Eh C.P gf lb xs (λW=>Sub V W)) (hps:∀x∈xs,x.length=ps.size) (hpn:(ps.toList.all λp=>decide (p<C.n))=true)
  {σ:Type} (own:Nat->σ->bU) (hcell:∀k s,(own k s).all (aN.vy w.heap.size)=true) (F:Nat->σ->ae->Prop)
  (s0:σ) {V1:ae} (hV1:Sub V V1) (H:Rel w0 V0 (own 0 s0) V1 w) (hF:F 0 s0 V1)
  (xY:∀L k x W s V1,xs[k]?=some x->Sub V V1->F k s V1->Rel w0 V0 (own k s) V1 W->ia { C with r:=some L } assign (AO ps.toList x env) [] W λe zO ds1 W1=>(match e with
   | .normal=>ds1=[]/\l8 w.heap.size W W1/\∀W2,Tw w.heap.size W1 W2->ia { C with r:=some L } body zO [] W2 (Mf w.heap.size W2 (λW=>∃V1 s,Sub V V1/\F (k+1) s V1/\Rel w0 V0 (own (k+1) s) V1 W) (λ_ _=>False))
   | _=>False))
  (hdone:∀D W s V1,w.heap.size<=D->Sub V V1->F xs.length s V1->Rel w0 V0 (own xs.length s++[qq D]) V1 W->Q .normal env (Ig D::ds) W) :
  aP C (.rangeFunc g ps assign body) env ds w Q:=by
 have hB:w0.heap.size<=w.heap.size:=H.base.size;refine TV hT hro hg hit hps hpn (λk W=>∃V1 s,Sub V V1/\F k s V1/\Rel w0 V0 (own k s) V1 W) (λ_ _=>False) ?_ ?_ ?_ ⟨V1,s0,hV1,hF,H⟩ ?_ ?_ ?_
 ·rintro k W W'⟨V1,s,h1,h2,h3⟩ht;exact⟨V1,s,h1,h2,h3.MR (hcell k s) hB ht⟩
 ·intro c W W' h _;exact h
 ·rintro k W⟨V1,s,h1,h2,h3⟩;exact h1.trans h3.data
 ·rintro L k x W hx⟨V1,s,h1,h2,h3⟩;exact xY L k x W s V1 hx h1 h2 h3
 ·rintro D W hD hW⟨V1,s,h1,h2,H⟩;refine hdone D W s V1 hD h1 h2 ⟨H.base,H.sub,H.old,?_,?_,?_,?_,H.data⟩
  ·intro r hr;rcases cq.1 hr with hr|hr
   ·exact H.laid r hr
   ·rw[cv.1 hr];exact hW
  ·intro r hr b hb;rcases cq.1 hr with hr|hr
   ·exact H.new r hr b hb
   ·rw[cv.1 hr]at hb;cases hb;omega
  ·intro r hr b hb;rcases cq.1 hr with hr|hr
   ·exact H.hid r hr b hb
   ·rw[cv.1 hr]at hb;cases hb;intro c t f hv;have:=H.data.bE _ _ _ _ hv;rw[hW]at this;cases this
  ·refine ue.2 ⟨H.apart,List.pairwise_singleton _ _,λr hr s hs b hb gK=>?_⟩;rw[cv.1 hs]at gK;cases gK;have Jw:=bj.1 (hcell _ _) r hr;have hl:=H.laid r hr;cases r with
   | obj b' o' =>
    simp only[aN.vy,dM,decide_eq_true_eq]at Jw;cases hb;omega
   | ax b' l t =>
    obtain⟨c,t,f,hcell⟩:=aN.cell_of rfl hl hb;rw[hW]at hcell;cases hcell
   | row s e sz xs =>
    obtain⟨c,t,f,hcell⟩:=aN.cell_of rfl hl hb;rw[hW]at hcell;cases hcell
 ·rintro D c W hD hW h;exact h.elim
theorem M6(L:Nat):∀i,i<(gG L).length↔i*16<L:=by
 induction L using Nat.strongRecOn with
 | ind L ih =>
  intro i;by_cases h0:L=0
  ·subst h0;rw[M8];simp
  by_cases h16:L<=16
  ·rw[M7 h0 h16];simp only[cQ];omega
  ·rw[M5 aa,av];cases i with
   | zero=>simp;omega
   | succ i =>
    have:=ih (L-16) aa i;omega
theorem aib{L:Nat}:∀ {k:Nat},k*16<L->(gG L)[k]?=some (min 16 (L-k*16)):=by
 induction L using Nat.strongRecOn with
 | ind L ih =>
  intro k hk;by_cases h16:L<=16
  ·obtain rfl:k=0:=aa;rw[M7 aa h16];simp only[AZ];congr 1;omega
  ·rw[M5 aa];cases k with
   | zero=>simp only[AZ];congr 1;omega
   | succ k =>
    rw[List.getElem?_cons_succ,ih (L-16) aa aa];congr 1;omega
theorem VP(L:Nat):(gG L).length<=L:=by
 by_cases h0:(gG L).length=0
 ·omega
 ·have:=(M6 L ((gG L).length-1)).1 aa;omega
theorem aic(h:k<S.length):iG (S.take (k+1))=iG (S.take k)++gG S[k].2.length:=by
 unfold iG;rw[bZ h,bT];simp
theorem M9:∀ {S:List bH},(∀x∈S,x.2.length<=65536)->(iG S).length<=S.length*65536
 | [],_=>by simp[iG]
 | x::S,h=>by
  have:=M9 (S:=S) λy hy=>h y (by simp[hy]);have h1:=h x ai;have h2:=VP x.2.length;have e:iG (x::S)=gG x.2.length++iG S:=by simp[iG]
  rw[e,aq,av,Nat.succ_mul];omega
section
variable{V W:ae}
theorem S6(hV:Sub V W){s:Sl}{S:List bH}(hs:oW V s S)(hl:S.length<=1000)(hd:∀x∈S,x.2.length<=65536):aC 259 [s.v] W λv w'=>∃(V':ae) (r:Sl),Sub V V'/\Rel W V [] V' w'/\v=r.v/\aB cK V' r (ints (iG S)):=by
 have H:=Rel.start hV;have hsl:=hs.len;obtain⟨gs,hgs,hpw⟩:=hs;have Fq:=hpw.len;refine eV Tryz.func259 24 [0,2,3,5,6,7,8,9,10,15,16] ?_;refine wk ?_;refine H.nA ?_;clear H;intro w b3 H;refine wk ?_;replace H:=H.cb 3 1;refine acm (S:=Nat×Sl×au) ah [0,2,3,7,8,16] (λq=>[(9,iv q.1)]) (λq=>q.2.2.map Ig) (λq w'=>q.1<=S.length/\q.2.2.Pairwise (λa b=>b<a)/\∃V3,Sub V V3/\Rel W V (.row q.2.1 3 1 ((ints (iG (S.take q.1))).flatMap cK)::.ax b3 [q.2.1.v] 50::q.2.2.map qq) V3 w') (λq _=>S.length-q.1) (0,⟨none,0,0⟩,[]) rfl ?_;conv=>whnf
 refine⟨sB,⟨aa,List.Pairwise.nil,V,Sub.refl _,H⟩,?_⟩;clear H;rintro⟨kk,r0,Ds⟩w⟨pA,Jg,V3,aw,H⟩;dsimp only at pA Jg H |-;by_cases hlt:kk<S.length
 ·obtain⟨p0,c0,c1⟩:=(hgs.up aw).fM (g:=λh:Nat×Sl=>iv (h.1:Int)) (g':=λh:Nat×Sl=>h.2.v) (λ_=>rfl) (i:=kk) aa;have hR:=hpw.all kk _ _ (a8 aa) (a8 hlt);obtain⟨x,hx⟩:∃x,x=gs[kk]'aa:=⟨_,rfl⟩
  obtain⟨y,hy⟩:∃y,y=S[kk]:=⟨_,rfl⟩
  rw[<-hx,<-hy]at hR;rw[<-hx]at c0 c1;have sw:=hd y (by rw[hy];exact cj hlt);have hus:=M9 (S:=S.take kk) λz hz=>hd z (AW hz);rw[bb]at hus;have gg:=aic hlt;rw[<-hy]at gg;obtain⟨xa,xs⟩:=x;obtain⟨_,hby⟩:=hR;dsimp only at hby c0 c1;have hbl:=hby.len;refine wk ?_;refine H.nA ?_;clear H;intro w b5 H;refine H.wg ?_;clear H;intro w H;refine(EB H.data xs (n:=16) ag).use ?_;rintro v w⟨b,c,rfl,V4,aG,K,hb,hc⟩;(replace H:=H.az K);refine wk ?_;have P2:∀D∈Ds,D<w.heap.size:=λD hD=>(jG.1 (H.laid (qq D) (by simp[hD]))).1;have Ce:=H.base.size;have hcell:∀(b':Nat) (l':aD) (t':TypeId) (r':Sl) (e' n':Nat) (c':aD) (b2:Nat) (l2:aD) (t2:TypeId),(aN.ax b' l' t'::aN.row r' e' n' c'::aN.ax b2 l2 t2::Ds.map qq).all (aN.vy w.heap.size)=true:=λ_ _ _ _ _ _ _ _ _ _=>by
   simp only[List.all_cons,O5 P2];rfl
  have oc:=aw.trans aG
  refine aeV ah rfl (by(conv=>whnf)) (EA (m:=(gG y.2.length).length) hb hc (hby.up oc) aa aa aa (M6 y.2.length)) ?_ rfl (σ:=Sl)
   (λk r=>.ax b5 [iv (xa:Int),xs.v] 316::.row r 3 1 ((ints (iG (S.take kk)++(gG y.2.length).take k)).flatMap cK)::.ax b3 [r.v] 50::Ds.map qq) (λ_ _=>hcell _ _ _ _ _ _ _ _ _ _)
   (λ_ _ _=>True) r0 (Sub.refl _) (by rw[List.take_zero,cm];exact H) trivial ?_ ?_
  ·intro z hz;obtain⟨i,_,rfl⟩:=cG.1 hz;rfl
  ·clear H;rintro L k z w r V5 hz aQ _ H;have hk:k<(gG y.2.length).length:=by
    have:=(cW.1 hz).1;rwa [tp]at this
   rw[BT hk]at hz;cases hz;have aa8:=(M6 y.2.length k).1 hk;have Ri:=aib aa8;have tT:=VP y.2.length;conv=>whnf
   refine⟨rfl,l8.refl _ _,λw' gv=>?_⟩;obtain⟨X,H,hX⟩:=(H.MR (hcell _ _ _ _ _ _ _ _ _ _) Ce gv).acR (hcell _ _ _ _ _ _ _ _ _ _) Ce;simp only[aL]at H;clear gv;generalize w'=w at H hX |-;refine H.wg ?_;clear H;intro _ w H;have Al:(gG y.2.length).take (k+1)=(gG y.2.length).take k++[(ja xs 16 k).len]:=by
    rw[bZ hk];rw[a8 hk]at Ri;rw[kX Ri];show _=_++[min 16 (xs.len-k*16)]
    rw[hbl]
   refine Rel.dI (f:=cK) (l:=ints (iG (S.take kk)++(gG y.2.length).take k)) (x:=(((ja xs 16 k).len:Nat):Int)) ah rfl rfl rfl rfl rfl ag (λ_=>rfl) (by simp[Value.oneCell']) H (by show((ints (iG (S.take kk)++(gG y.2.length).take k)).length+1)*8<=_;simp only[bu,aq,bb];omega) (by simp only[bu,aq,bb];omega) ?_;clear H;intro r1 w H;refine H.wg ?_;clear H;intro w H;refine⟨hX _ (λr hr=>H.laid r (by simp[hr])),V5,r1,aQ,trivial,?_⟩;rw[Al,<-bJ,show ints (iG (S.take kk)++(gG y.2.length).take k++[(ja xs 16 k).len])=ints (iG (S.take kk)++(gG y.2.length).take k)++[(((ja xs 16 k).len:Nat):Int)]by simp];exact H.sl (.cons_cons _ (.cons_cons _ (.cons_cons _ (List.sublist_append_left _ _))))
  ·clear H;rintro D w r V5 hD aQ _ H;rw[tp,fR]at H;rw[<-gg]at H;refine wk ?_;have H1:=(H.sl (List.Sublist.cons _ (pO _))).perm (List.Perm.cons _ (List.Perm.cons _ (List.perm_append_singleton (qq D) (Ds.map qq))));exact⟨sB,(kk+1,r,D::Ds),rfl,sB,⟨by dsimp only;omega,lS.2 ⟨λD' hD'=>by have:=P2 D' hD';omega,Jg⟩,V5,oc.trans aQ,H1⟩,by dsimp only;omega⟩
 ·obtain rfl:kk=S.length:=aa;rw[fR]at H;obtain⟨V4,aG,H,hr⟩:=Rel.aT H (λ_=>rfl) ag;refine wk ?_;refine Rel.Sg (own:=[.ax b3 [r0.v] 50]) rfl Jg H λw' H=>?_;refine wk ?_;exact⟨V4,r0,aw.trans aG,H.sx,rfl,hr⟩
end
theorem DS(hV:Sub V W){s:Sl}{l:List Int}(hs:aB cK V s l){g:FuncId}{cap:aD}{enc:Int->ad}(hone:∀x∈l,uK V g cap (iv x) (enc x))(hll:l.length<=1099511627776)(hb:(bY enc l).length<=1099511627776) :
  aC 235 [s.v,.func (.func g) #[] cap.toArray] W λv w'=>∃r:Sl,v=r.v/\Rel W V [.row r 5 1 ((bY enc l).flatMap aE)] V w':=by
 have H:=Rel.start hV;have hlen:=hs.len;rw[bY,aq]at hb;refine eV Tryz.func235 24 [0,1,4,5,7,11,12,13,14] ?_;refine wk ?_;rw[hlen];refine(iQ (n:=l.length) H.data (by constructor<;>omega)).use ?_;rintro v w⟨r0,rfl,K⟩;replace H:=H.call K;refine wk ?_;refine aY (S:=Nat×Sl) ah [0,1,4,11,12] (λk=>[(5,k.2.v),(13,iv k.1)]) (λk w'=>k.1<=l.length/\∃V1,Sub V V1/\Rel W V [.row k.2 5 1 ((aM l.length++(l.take k.1).flatMap enc).flatMap aE)] V1 w') (λk _=>l.length-k.1) (0,r0) ?_;conv=>whnf
 refine⟨sB,⟨aa,V,Sub.refl _,by simpa using H⟩,?_⟩;clear H;rintro⟨k,r⟩w⟨hk,V1,hV1,H⟩;dsimp only at hk H;by_cases hlt:k<l.length;rotate_left
 ·refine wk ?_;rw[bR aa]at H;exact⟨r,rfl,H.back⟩
 have hbl:=EW (enc:=enc) hlt;obtain⟨hp,hq⟩:=(hs.up hV1).aX (g:=iv) (λ_=>rfl) hlt;refine wk ?_;refine(hone l[k] (cj hlt) V1 w hV1 H.data).use ?_;rintro v w⟨V2,x,hV2,rfl,hx,K⟩;replace H:=H.call K;simp only[aA]at H;refine wk ?_;refine Rel.eJ H (i:=0) rfl hx (by simp only[aq];omega) ?_;clear H;intro rn w H;rw[EV hlt]at H;refine wk ?_;exact⟨sB,(k+1,rn),sB,⟨aa,V2,hV1.trans hV2,H.sx⟩,aa⟩
section
variable{V W:ae}
theorem Dr(z:Int)(hz:dx z):uK V 196 [] (iv z) (aM z):=F0 λV1 W1 hV fg=>iQ hV hz
end
set_option maxRecDepth 100000 in
set_option maxHeartbeats 1000000 in
theorem T6(hV:Sub V W){s:Sl}{l:ad}(hs:ay V s l)(hl:l.length<=1099511627776){p:Nat}(hp:p<=l.length){m:Int}(hm:0<=m/\m<=4294967296){g:FuncId}{cap:aD}{one:Nat->gH Int}
  (hone:∀q,q<=l.length->Reads V g cap s iv (λ_ x y=>x=y) q (one q)) (hin:∀q x q',q<=l.length->one q=.ok x q'->q'<=l.length) :
  aC 237 [s.v,iv p,iv m,.func (.func g) #[] cap.toArray] W (Bz Sl.v (RL cK (λ_ x y=>x=y)) W V (bX l one m p)):=by
 have H:=Rel.start hV;have hlen:=hs.len;have hR:∀(V V':ae) (x:Int) (y:Int),Sub V V'->((λ_ x y=>x=y):ae->Int->Int->Prop) V x y->((λ_ x y=>x=y):ae->Int->Int->Prop) V' x y:=λ_ _ _ _ _ h=>h;refine eV Tryz.func237 64 [0,1,2,3,8,9,10,11,12,13,14,15,16,17,25,30,40,41,42,53] ?_;refine wk ?_;refine H.nA ?_;clear H;intro w ix H;refine wk ?_;refine(mN H.data hs hl hp).use ?_;rintro v w⟨rfl,K⟩;replace H:=H.call K;simp only[aA]at H;cases hn:cD l p with
 | bad c i =>
  have dR:=mH hn;have hr:bX l one m p=.bad c i:=by rw[bX,hn]
  rw[hr];refine wk ?_;refine H.nA ?_;clear H;intro w iX H;refine H.wg ?_;clear H;intro w H;(first|refine dV 3 [] [0,1,2,3] H ?_|refine dV 11 [] [0,1,2,3] H ?_);clear H;intro w H;refine H.wg ?_;clear H;intro w H;exact⟨V,⟨none,0,0⟩,0,c,i,Sub.refl _,H.sx,rfl,rfl,rfl,dR⟩
 | ok n q0 =>
  obtain⟨h1,h2,h3,h4,h5⟩:=eX hp hn;refine wk ?_;refine H.nA ?_;clear H;intro w iX H;by_cases hb:n<0\/m<n
  ·have hr:bX l one m p=.bad 4 p:=by rw[bX,hn];simp only;rw[if_pos hb]
   rw[hr];by_cases hn0:n<0
   all_goals
    refine H.wg ?_;clear H;intro w H;refine(tt H.data 4 p).use ?_;rintro v w⟨rfl,K⟩;replace H:=H.call K;simp only[aA]at H;refine H.wg ?_;clear H;intro w H;exact⟨V,⟨none,0,0⟩,0,4,p,Sub.refl _,H.sx,rfl,rfl,rfl,ag⟩
  have hr:bX l one m p=dK one n.toNat q0:=by rw[bX,hn];simp only;rw[if_neg hb]
  rw[hr];obtain⟨N,rfl⟩:∃N:Nat,n=N:=⟨n.toNat,aa⟩
  rw[Int.toNat_natCast];refine H.wg ?_;clear H;intro w H;replace H:=H.cb 3 1;refine aY (S:=Nat×Nat×Sl×List Int×List Int) ah [0,1,2,3,10,11,13,25,30,40] (λk=>[(12,iv k.2.1),(14,k.2.2.1.v),(41,iv k.1)]) (λk w'=>k.1<=N/\k.2.1<=l.length/\k.2.2.2.1.length=k.1/\dK one k.1 q0=.ok k.2.2.2.2 k.2.1/\∃V1,Sub V V1/\Pw (λ_ x y=>x=y) V1 k.2.2.2.1 k.2.2.2.2/\Rel W V [.row k.2.2.1 3 1 (k.2.2.2.1.flatMap cK),.ax iX [iv 0,iv 0] 31,.ax ix [iv 0,iv 0] 31] V1 w') (λk _=>N-k.1) (0,q0,⟨none,0,0⟩,[],[]) ?_;conv=>whnf
  refine⟨sB,⟨aa,h2,rfl,rfl,V,Sub.refl _,Pw.nil,H.sx⟩,?_⟩;clear H;rintro⟨k,q,r,xs,ys⟩w⟨hk,hq,hxl,j0,V1,hV1,hpw,H⟩;dsimp only at hk hq hxl j0 hpw H;by_cases hlt:k<N;rotate_left
  ·obtain rfl:k=N:=aa;refine H.wg ?_;clear H;intro w H;obtain⟨V2,hV2,H,fw⟩:=Rel.aT H (λ_=>rfl) ag;rw[j0];exact⟨V2,r,q,0,0,hV1.trans hV2,H.sx,rfl,rfl,rfl,rfl,xs,fw,hpw.up hR hV2⟩
  refine wk ?_;refine(hone q hq V1 w hV1 H.data).use ?_;rintro v w⟨V2,x,n2,c,i,hV2,K,rfl,hres⟩;replace H:=H.call K;simp only[aA]at H;cases ho:one q with
  | bad c' i' =>
   rw[ho]at hres;obtain⟨rfl,rfl,dR⟩:=hres;have sf:dK one N q0=.bad c i:=by
    have:=Dg j0 ho (N-(k+1));rwa [show k+1+(N-(k+1))=N by omega]at this
   rw[sf];refine H.wg ?_;clear H;intro _ _ w H;(first|refine dV 3 [] [0,1,2,3] H ?_|refine dV 11 [] [0,1,2,3] H ?_);clear H;intro w H;refine H.wg ?_;clear H;intro w H;exact⟨V2,⟨none,0,0⟩,0,c,i,hV1.trans hV2,H.sx,rfl,rfl,rfl,dR⟩
  | ok y q' =>
   rw[ho]at hres;obtain⟨rfl,rfl,rfl,mG⟩:=hres;have qJ:=hin q y q' hq ho;refine H.wg ?_;clear H;intro _ _ _ _ w H;refine Rel.dI (f:=cK) (l:=xs) (x:=x) ah rfl rfl rfl rfl rfl ag (λ_=>rfl) (bj.1 rfl) H (by simp;omega) aa ?_;clear H;intro rn w H;refine wk ?_;exact⟨sB,(k+1,q',rn,xs++[x],ys++[y]),sB,⟨aa,qJ,by simp[hxl],FQ j0 ho,V2,hV1.trans hV2,(hpw.up hR hV2).snoc mG,H.sx⟩,aa⟩
theorem R7{α:Type}{one:Nat->gH α}:∀ {n p q:Nat} {l:List α},dK one n p=.ok l q->l.length=n
 | 0,p,q,l,h=>by
  simp only[dK]at h;cases h;rfl
 | n+1,p,q,l,h=>by
  simp only[dK]at h;split at h
  ·cases h
  ·split at h
   ·cases h
   ·rename_i h2;cases h;simp[R7 h2]
theorem RT{one:Nat->gH α}{m:Int}{p q:Nat}{ys:List α}(h:bX l one m p=.ok ys q):(ys.length:Int)<=m:=by
 unfold bX at h;split at h
 ·cases h
 ·split at h
  ·cases h
  ·have:=R7 h;omega
theorem Tf{xs ys:List Int}(h:Pw (λ_ x y=>x=y) V xs ys):xs=ys:=h.eq
section
variable{V W:ae}
theorem ZD(hV:Sub V W){x y:Sl}{a b:List Int}(hx:aB cK V x a)(hy:aB cK V y b)(ha:a.length<=1099511627776):aC 258 [x.v,y.v] W λv w'=>v=.bool (decide (a=b))/\Rel W V [] V w':=by
 have H:=Rel.start hV;have h1:=hx.len;have h2:=hy.len;refine eV Tryz.func258 26 [0,1,4,5,10,12,13,14,24] ?_;by_cases hl:a.length=b.length;rotate_left
 ·refine wk ?_;rw[decide_eq_false (λh=>hl (by rw[h]))];exact⟨rfl,H⟩
 refine wk ?_;refine aY (S:=Nat) ah [0,1,10,12] (λk=>[(13,iv k)]) (λk w'=>k<=a.length/\a.take k=b.take k/\Rel W V [] V w') (λk _=>a.length-k) 0 ?_;conv=>whnf
 refine⟨sB,⟨aa,rfl,H⟩,?_⟩;clear H;rintro k w⟨hk,hz,H⟩;by_cases xN:k<a.length;rotate_left
 ·rw[bR aa,bR aa]at hz;refine wk ?_;rw[decide_eq_true hz];exact⟨rfl,H⟩
 have CK:k<b.length:=aa;obtain⟨hp,hc⟩:=hx.aX (g:=iv) (λ_=>rfl) xN;obtain⟨tO,hc'⟩:=hy.aX (g:=iv) (λ_=>rfl) CK;have ta:=bZ xN;have tb:=bZ CK;by_cases he:a[k]=b[k]
 ·rw[he]at hc ta;refine wk ?_;refine dV 6 [] [0,1,2,3,4,5,6,7,8] H ?_;clear H;intro w H;refine wk ?_;exact⟨sB,k+1,sB,⟨aa,by rw[ta,tb,hz],H.sx⟩,aa⟩
 ·have hne:a≠b:=λh=>he (by subst h;rfl);generalize a[k]=u at hc he;generalize b[k]=v at hc' he;refine wk ?_;refine dV 6 [] [0,1,2,3,4,5,6,7,8] H ?_;clear H;intro w H;refine wk ?_;rw[decide_eq_false hne];exact⟨rfl,H.sx⟩
theorem RB{a b:au}:ints a=ints b↔a=b:=by
 constructor
 ·intro h;have:=congrArg (List.map Int.toNat) h;rwa [Ku,Ku]at this
 ·intro h;rw[h]
theorem afG(hV:Sub V W){fl:Nat}(hf:fl<4){sg sz:Sl}{S:List bH}{Z:au}(hs:oW V sg S)(hz:aB cK V sz (ints Z))(tB:S.length<=1000)(ni:Z.length<=1000)(hZ:∀n∈Z,n<=255)(hd:∀x∈S,x.2.length<=65536) :
  aC 168 [.agg [sg.v,sz.v,iv (fl:Int)].toArray] W λv w'=>∃(V':ae) (r:Sl),Sub V V'/\Rel W V [] V' w'/\v=r.v/\ay V' r (iS fl (j8 S Z)):=by
 have H:=Rel.start hV;have ov:=hz.len;rw[bu]at ov;refine eV Tryz.func168 25 [0,1,2,3,10,18] ?_;refine wk ?_;refine H.nA ?_;clear H;intro w b1 H;refine wk ?_;refine(S6 H.data hs tB hd).use ?_;rintro v w⟨V2,r,hV2,K,rfl,hr⟩;(replace H:=H.az K);refine wk ?_;refine(ZD H.data (hz.up hV2) hr (by rw[bu];omega)).use ?_;rintro v w⟨rfl,K⟩;(replace H:=H.az K);by_cases he:Z=iG S
 ·rw[decide_eq_true (RB.2 he)];have e:j8 S Z=[]:=by unfold j8;rw[if_pos he]
  rw[e];refine wk ?_;by_cases h1:fl=0
  ·have e:iS fl []=[]:=by unfold iS;rw[if_pos ⟨h1,rfl⟩]
   rw[e];refine wk ?_;exact⟨V2,⟨none,0,0⟩,hV2,H.sx,rfl,aB.nil _ _⟩
  have e:iS fl []=aM fl++bY aM (ints []):=by unfold iS;rw[if_neg λq=>h1 q.1]
  rw[e];have hpl:=Lh (Z:=[]) ai ai;have hpn:=fj (n:=(fl:Int)) aa aa;refine wk ?_;refine(iQ (n:=(fl:Int)) H.data (by constructor<;>omega)).use ?_;rintro v w⟨r1,rfl,K⟩;(replace H:=Rel.call H K);simp only[aL,aA]at H;refine wk ?_;refine(DS (l:=ints ([]:au)) (enc:=aM) H.data (aB.nil _ _) (λz hz=>Dr z ?_) (by first|(simp only[bu];have:=(show([]:au).length<=1000 by simp);omega)|simp) aa).use ?_
  ·obtain⟨n,hn,rfl⟩:=cG.1 hz;have:=(λ(n:Nat) (hn:n∈([]:au))=>(by simp at hn:n<=255)) n hn;constructor<;>omega
  rintro v w⟨r2,rfl,K⟩;(replace H:=Rel.call H K);simp only[aL,aA]at H;refine wk ?_;refine Rel.dD H (i:=0) rfl aa ?_;clear H;intro rn w H;simp only[bC]at H;obtain⟨V3,aw,H,cL⟩:=Rel.aT H (λ_=>rfl) ag;refine wk ?_;exact⟨V3,rn,hV2.trans aw,H.sx,rfl,cL⟩
 ·rw[decide_eq_false (λq=>he (RB.1 q))];have e:j8 S Z=Z:=by unfold j8;rw[if_neg he]
  rw[e];refine wk ?_;by_cases h0:fl=0/\Z=[]
  ·have e:iS fl Z=[]:=by unfold iS;rw[if_pos h0]
   obtain⟨h1,h2⟩:=h0;have h3:Z.length=0:=by rw[h2];rfl
   rw[e];refine wk ?_;exact⟨V2,⟨none,0,0⟩,hV2,H.sx,rfl,aB.nil _ _⟩
  have e:iS fl Z=aM fl++bY aM (ints Z):=by unfold iS;rw[if_neg h0]
  rw[e];have hpl:=Lh (Z:=Z) ni hZ;have hpn:=fj (n:=(fl:Int)) aa aa;by_cases h1:fl=0
  ·have h3:Z.length≠0:=λq=>h0 ⟨h1,bL q⟩;refine wk ?_;refine(iQ (n:=(fl:Int)) H.data (by constructor<;>omega)).use ?_;rintro v w⟨r1,rfl,K⟩;(replace H:=Rel.call H K);simp only[aL,aA]at H;refine wk ?_;refine(DS (l:=ints Z) (enc:=aM) H.data (hz.up hV2) (λz hz=>Dr z ?_) (by first|(simp only[bu];have:=ni;omega)|simp) aa).use ?_
   ·obtain⟨n,hn,rfl⟩:=cG.1 hz;have:=hZ n hn;constructor<;>omega
   rintro v w⟨r2,rfl,K⟩;(replace H:=Rel.call H K);simp only[aL,aA]at H;refine wk ?_;refine Rel.dD H (i:=0) rfl aa ?_;clear H;intro rn w H;simp only[bC]at H;obtain⟨V3,aw,H,cL⟩:=Rel.aT H (λ_=>rfl) ag;refine wk ?_;exact⟨V3,rn,hV2.trans aw,H.sx,rfl,cL⟩
  ·refine wk ?_;refine(iQ (n:=(fl:Int)) H.data (by constructor<;>omega)).use ?_;rintro v w⟨r1,rfl,K⟩;(replace H:=Rel.call H K);simp only[aL,aA]at H;refine wk ?_;refine(DS (l:=ints Z) (enc:=aM) H.data (hz.up hV2) (λz hz=>Dr z ?_) (by first|(simp only[bu];have:=ni;omega)|simp) aa).use ?_
   ·obtain⟨n,hn,rfl⟩:=cG.1 hz;have:=hZ n hn;constructor<;>omega
   rintro v w⟨r2,rfl,K⟩;(replace H:=Rel.call H K);simp only[aL,aA]at H;refine wk ?_;refine Rel.dD H (i:=0) rfl aa ?_;clear H;intro rn w H;simp only[bC]at H;obtain⟨V3,aw,H,cL⟩:=Rel.aT H (λ_=>rfl) ag;refine wk ?_;exact⟨V3,rn,hV2.trans aw,H.sx,rfl,cL⟩
end
abbrev BB(V:ae)(h:VH)(s:bH):Prop:=bV V h (wj s)
theorem Uv:∀(V V':ae) (x:VH) (y:bH),Sub V V'->BB V x y->BB V' x y:=λ_ _ _ _ k h=>h.up k
theorem aa3{hs:List VH}(h1:aB cr V s hs)(h2:Pw BB V hs S):bV V ⟨3,0,⟨none,0,0⟩,⟨none,0,0⟩,s⟩ (od S) :=
 .mk hs rfl rfl (aB.nil _ _) (aB.nil _ _) h1 (by show hs.length=(S.map wj).length;rw[h2.len,bu]) λi x p hx hp=>by
  have hp:(S.map wj)[i]?=some p:=hp;rw[eu]at hp;cases hS:S[i]? with
  | none=>rw[hS]at hp;cases hp
  | some y =>
   rw[hS]at hp;cases hp;exact h2.all i x y hx hS
theorem agj{sn sp xs:Sl}(h1:aB p7 V sn [yN,yO])(h2:aB cr V sp [kV (a:Int),iZ xs])(h3:ay V xs d):BB V ⟨4,0,⟨none,0,0⟩,sn,sp⟩ (a,d) :=
 Na h1 h2 rfl λi x p hx hp=>by
  match i,hx,hp with
  | 0,hx,hp=>cases hx;cases hp;exact Bj _ _
  | 1,hx,hp=>cases hx;cases hp;exact y7 h3
  | i+2,hx,hp=>simp at hx
section
variable{V W:ae}
theorem Sj(hV:Sub V W):aC 257 [] W λv w'=>∃(V':ae) (s:Sl),Sub V V'/\Rel W V [] V' w'/\v=s.v/\aB p7 V' s [yN,yO]:=by
 have H:=Rel.start hV;refine eV Tryz.func257 2 [0] ?_;refine wk ?_;refine H.nA ?_;clear H;intro w b1 H;obtain⟨V2,hV2,H,hb⟩:=H.bt;refine wk ?_;exact⟨V2,⟨some ⟨b1,0,none⟩,2,2⟩,hV2,H.sx,rfl,rfl,aK _,hb.cells⟩
theorem ad6(hV:Sub V W){s:Sl}{S:List bH}(hs:oW V s S)(hl:S.length<=1000):aC 167 [s.v] W λv w'=>∃(V':ae) (h:VH),Sub V V'/\Rel W V [] V' w'/\v=fb h/\bV V' h (od S):=by
 have H:=Rel.start hV;have hsl:=hs.len;obtain⟨gs,hgs,hpw⟩:=hs;have Fq:=hpw.len;refine eV Tryz.func167 31 [0,2,3,5,6,8,9,10,11] ?_;refine wk ?_;refine H.nA ?_;clear H;intro w b2 H;refine wk ?_;refine H.nA ?_;clear H;intro w b3 H;refine H.wg ?_;clear H;intro w H;replace H:=H.cb 27 5;refine aY (S:=Nat×Sl×List VH) ah [0,2,3,8,9] (λq=>[(10,iv q.1)]) (λq w'=>q.1<=S.length/\∃V3,Sub V V3/\Pw BB V3 q.2.2 (S.take q.1)/\Rel W V [.row q.2.1 27 5 (q.2.2.flatMap cr),.ax b3 [iv 3,iv 0,.slice none 0 0,.slice none 0 0,q.2.1.v] 27,.ax b2 (cr eR) 27] V3 w') (λq _=>S.length-q.1) (0,⟨none,0,0⟩,[]) ?_;conv=>whnf
 refine⟨sB,⟨aa,V,Sub.refl _,Pw.nil,H⟩,?_⟩;clear H;rintro⟨kk,pr,hh⟩w⟨pA,V3,aw,hP,H⟩;dsimp only at pA hP H |-;by_cases hlt:kk<S.length
 ·obtain⟨p0,c0,c1⟩:=(hgs.up aw).fM (g:=λh:Nat×Sl=>iv (h.1:Int)) (g':=λh:Nat×Sl=>h.2.v) (λ_=>rfl) (i:=kk) aa;have hR:=hpw.all kk _ _ (a8 aa) (a8 hlt);obtain⟨x,hx⟩:∃x,x=gs[kk]'aa:=⟨_,rfl⟩
  obtain⟨y,hy⟩:∃y,y=S[kk]:=⟨_,rfl⟩
  rw[<-hx,<-hy]at hR;rw[<-hx]at c0 c1;have hst:=bZ hlt;rw[<-hy]at hst;obtain⟨xa,xs⟩:=x;obtain⟨ya,yd⟩:=y;obtain⟨mG,hby⟩:=hR;dsimp only at hby mG c0 c1;subst mG;have hpl:=hP.len;rw[bb]at hpl;refine wk ?_;refine H.nA ?_;clear H;intro w b5 H;refine H.wh ?_;clear H;intro w H;refine H.nA ?_;clear H;intro w b6 H;obtain⟨V4,aG,H,Js⟩:=H.bt;refine wk ?_;refine dV 6 [2,5] [0,1,3,2,4,5,6,7,8] H ?_;clear H;intro w H;refine wk ?_;refine(Sj H.data).use ?_;rintro v w⟨V5,sn,aQ,K,rfl,gg⟩;(replace H:=H.az K);refine H.wg ?_;clear H;intro _ w H;refine Rel.dI (f:=cr) (l:=hh) (x:=⟨4,0,⟨none,0,0⟩,sn,⟨some ⟨b6,0,none⟩,2,2⟩⟩) ah rfl rfl rfl rfl rfl ag (λ_=>rfl) (by simp[Value.oneCell']) H (by show(hh.length+1)*88<=_;omega) aa ?_;clear H;intro pr1 w H;refine H.wg ?_;clear H;intro w H;have Jm:=aG.trans aQ;refine⟨sB,(kk+1,pr1,hh++[⟨4,0,⟨none,0,0⟩,sn,⟨some ⟨b6,0,none⟩,2,2⟩⟩]),sB,⟨by dsimp only;omega,V5,aw.trans Jm,?_,H.sx⟩,by dsimp only;omega⟩;dsimp only;rw[hst];exact(hP.up Uv Jm).snoc (agj gg ⟨rfl,aK _,Js.cells.fa aQ⟩ (hby.up (aw.trans Jm)))
 ·obtain rfl:kk=S.length:=aa;rw[fR]at hP;obtain⟨V4,aG,H,hr⟩:=Rel.aT H (λ_=>rfl) ag;refine H.wg ?_;clear H;intro w H;exact⟨V4,⟨3,0,⟨none,0,0⟩,⟨none,0,0⟩,pr⟩,aw.trans aG,H.sx,rfl,aa3 hr (hP.up Uv aG)⟩
end
section
variable{V W:ae}
theorem Vd(hV:Sub V W)(hM:s6 V){s:Sl}{l:ad}(hs:ay V s l)(hl:l.length<=1099511627776):aC 70 [s.v] W (l9 W V (br (gL l) l.length)):=by
 have H:=Rel.start hV;have hlen:=hs.len;refine eV Tryz.func70 38 [0,2,3,4,5,6,7,8,11,14,15,23,30] ?_;refine wk ?_;refine H.nA ?_;clear H;intro w b2 H;refine wk ?_;refine H.nA ?_;clear H;intro w b4 H;by_cases hbig:1000<l.length
 ·have e:br (gL l) l.length=⟨zeroV,[],3, -1⟩:=by unfold br;rw[if_pos hbig]
  rw[e];refine wk ?_;refine(EP H.data 3 (-1)).use ?_;rintro v w⟨rfl,K⟩;(replace H:=H.az K);refine H.wg ?_;clear H;intro _ w H;exact⟨V,eR,⟨none,0,0⟩,Sub.refl _,H.sx,rfl,lu _,aB.nil _ _⟩
 refine wk ?_;refine aY (S:=Nat) ah [0,2,4,11] (λf=>[(14,iv f)]) (λf w'=>f<=4/\(∀g,g<f->km g l=none)/\∃V2,Sub V V2/\Rel W V [.ax b4 [iv 0,iv 0] 31,.ax b2 (cr eR) 27] V2 w') (λf _=>4-f) 0 ?_;conv=>whnf
 refine⟨sB,⟨aa,λg hg=>by omega,V,Sub.refl _,H⟩,?_⟩;clear H;rintro f w⟨QN,hno,V2,hV2,H⟩;by_cases hf:f<4;rotate_left
 ·obtain rfl:f=4:=aa;have e:br (gL l) l.length=⟨zeroV,[],21, -1⟩:=by unfold br;rw[if_neg hbig,aa1 hno]
  rw[e];refine wk ?_;refine(EP H.data 21 (-1)).use ?_;rintro v w⟨rfl,K⟩;(replace H:=H.az K);refine H.wg ?_;clear H;intro _ w H;exact⟨V2,eR,⟨none,0,0⟩,hV2,H.sx,rfl,lu _,aB.nil _ _⟩
 refine wk ?_;refine(afn H.data (hM.up hV2) (hs.up hV2) aa hf).use ?_;rintro v w⟨V3,sg,sz,c,k,aw,K,rfl,hres⟩;(replace H:=H.az K);refine wk ?_;refine H.nA ?_;clear H;intro w b6 H;have dP:=hV2.trans aw;cases hr:xH f l with
 | none =>
  rw[hr]at hres;obtain rfl:=hres;have hone:km f l=none:=by unfold km;rw[hr]
  refine H.wg ?_;clear H;intro w H;exact⟨sB,f+1,sB,⟨aa,λg hg=>by
   by_cases e:g=f
   ·rw[e];exact hone
   ·exact hno g aa,V3,dP,H.sx⟩,aa⟩
 | some p =>
  obtain⟨S,Z⟩:=p;rw[hr]at hres;obtain⟨rfl,rfl,hsg,hsz⟩:=hres;have F:=QH hr;have hok:=F.seg;have ni:=F.len;obtain⟨init,_,i2,i3⟩:=F.ex;have tB:=Ni hok i2;have hB:=Wb hok aa;have hd:∀x∈S,x.2.length<=65536:=λx hx=>by have:=hok x hx;omega
  refine H.wg ?_;clear H;intro w H;refine(ad6 H.data hsg aa).use ?_;rintro v w⟨V4,h,aG,K,rfl,hv⟩;(replace H:=H.az K);refine wk ?_;refine H.nA ?_;clear H;intro w b8 H;refine H.wg ?_;clear H;intro w H;refine(qe H.data hv hB).use ?_;rintro q w⟨rfl,K⟩;(replace H:=H.az K);by_cases bP:(bI (od S)).1=0;rotate_left
  ·have hone:km f l=none:=by unfold km;rw[hr];simp only;rw[if_neg bP]
   refine wk ?_;exact⟨sB,f+1,sB,⟨aa,λg hg=>by
    by_cases e:g=f
    ·rw[e];exact hone
    ·exact hno g aa,V4,dP.trans aG,H.sx⟩,aa⟩
  have hone:km f l=some (od S,iS f (j8 S Z)):=by unfold km;rw[hr];simp only;rw[if_pos bP]
  have e:br (gL l) l.length=⟨od S,iS f (j8 S Z),0,0⟩:=by unfold br;rw[if_neg hbig,aa2 hf hno hone]
  rw[e,oQ bP];refine wk ?_;refine dV 10 [2] [0,1,3,2,4,5,6] H ?_;clear H;intro w H;refine wk ?_;refine(afG H.data hf (hsg.up aG) (hsz.up aG) aa aa (λn hn=>(F.sz n hn).2) hd).use ?_;rintro v w⟨V5,r2,aQ,K,rfl,hr2⟩;(replace H:=H.az K);refine H.wg ?_;clear H;intro _ w H;exact⟨V5,_,r2,(dP.trans aG).trans aQ,H.sx,rfl,hv.up aQ,hr2⟩
end
def HJ(v:ar):Prop:=VB 1048576 v/\∃d n m,fe d v n=.ok m
theorem Wz{k:Int}{s t:bg}(hs:∀x∈s,x.length<=1048576)(ht:∀x∈t,x.length<=1048576):∀ {ps qs:List ar} {i:Nat} {x y:ad},ps.length=qs.length->(∀p∈ps,∀q∈qs,∀u v,enc p++u=enc q++v->p=q/\u=v) ->
  (ps.zipIdx i).flatMap (λp=>(if k=4 then cP (s.getD p.2 [])else[])++enc p.1)++x=(qs.zipIdx i).flatMap (λp=>(if k=4 then cP (t.getD p.2 [])else[])++enc p.1)++y->ps=qs/\(k=4->∀j,i<=j->j<i+ps.length->s.getD j []=t.getD j [])/\x=y
 | [],[],i,x,y,_,_,h=>⟨rfl,λ_ j h1 h2=>by simp at h2;omega,by simpa using h⟩
 | [],_::_,_,_,_,h,_,_=>by simp at h
 | _::_,[],_,_,_,h,_,_=>by simp at h
 | p::ps,q::qs,i,x,y,hl,ih,h=>by
  have hg:∀(l:bg),(∀x∈l,x.length<=1048576)->(l.getD i []).length<=1099511627776:=λl hl=>by
   rw[LF];cases e:l[i]? with
   | none=>simp
   | some z=>have:=hl z (fH e);simp only[Option.getD_some];omega
  rw[Gv,Gv,bz,bz,bJ,bJ,bJ,bJ]at h;have h2:(k=4->s.getD i []=t.getD i [])/\enc p++((ps.zipIdx (i+1)).flatMap (λp=>(if k=4 then cP (s.getD p.2 [])else[])++enc p.1)++x)=enc q++((qs.zipIdx (i+1)).flatMap (λp=>(if k=4 then cP (t.getD p.2 [])else[])++enc p.1)++y):=by
   by_cases hk:k=4
   ·simp only[if_pos hk]at h |-;obtain⟨a,b⟩:=Tb (hg s hs) (hg t ht) h;exact⟨λ_=>a,b⟩
   ·simp only[if_neg hk,aA]at h |-;exact⟨λq=>absurd q hk,h⟩
  obtain⟨h3,h4⟩:=ih p ai q ai _ _ h2.2;obtain⟨h5,h6,h7⟩:=Wz hs ht (by simpa using hl) (λa ha b hb=>ih a (by simp[ha]) b (by simp[hb])) h4;refine⟨by rw[h3,h5],λhk j hj1 iB=>?_,h7⟩;by_cases e:j=i
  ·subst e;exact h2.1 hk
  ·exact h6 hk j aa (by simp only[av]at iB;omega)
theorem Zp(v:ar):∀ {w:ar} {x y:ad},HJ v->HJ w->enc v++x=enc w++y->v=w/\x=y:=by
 induction v using(measure (λv:ar=>SizeOf.sizeOf v)).wf.induction with
 | _ v ih =>
  intro w x y ⟨hB,d,n,m,hc⟩ ⟨hB',d',n',m',hc'⟩ h;obtain⟨_,_,k1,f1,p1,s1,_,c1⟩:=tn hc;obtain⟨_,_,k2,f2,p2,s2,_,c2⟩:=tn hc';rw[B5,B5,bJ,bJ]at h;obtain⟨ek,h⟩:=Gd aa aa h;unfold ig at f1 f2;rw[<-ek]at h f2;have ext:v.num=w.num->v.bytes=w.bytes->v.names=w.names->v.parts=w.parts->v=w:=λa b c e=>by
   rw[ar.eta v,ar.eta w,ek,a,b,c,e]
  have nil:∀ {α:Type} {l:List α},¬0<l.length->l=[]:=λh=>bL aa;by_cases e1:v.kind=1
  ·rw[if_pos e1,if_pos e1]at h;obtain⟨a,b⟩:=Gd hB.num hB'.num h;refine⟨ext a ?_ ?_ ?_,b⟩
   ·rw[nil (l:=v.bytes) aa,nil (l:=w.bytes) aa]
   ·rw[nil (l:=v.names) aa,nil (l:=w.names) aa]
   ·rw[nil (l:=v.parts) aa,nil (l:=w.parts) aa]
  rw[if_neg e1,if_neg e1]at h;by_cases e2:v.kind=2
  ·rw[if_pos e2,if_pos e2]at h;have b1:=hB.bytes;have b2:=hB'.bytes;obtain⟨a,b⟩:=Tb aa aa h;refine⟨ext aa a ?_ ?_,b⟩
   ·rw[nil (l:=v.names) aa,nil (l:=w.names) aa]
   ·rw[nil (l:=v.parts) aa,nil (l:=w.parts) aa]
  rw[if_neg e2,if_neg e2,bJ,bJ]at h;obtain⟨a,h⟩:=Gd aa aa h;unfold lC at h;obtain⟨q1,q2,q3⟩:=Wz (λx hx=>hB.name x hx) (λx hx=>hB'.name x hx) aa (λp hp q hq u z hu=>by
   obtain⟨a1,b1,g1⟩:=rO c1 p hp;obtain⟨a2,b2,g2⟩:=rO c2 q hq;exact ih p (ar.vF hp) ⟨hB.part p hp,_,_,_,g1⟩ ⟨hB'.part q hq,_,_,_,g2⟩ hu) h
  refine⟨ext aa (by rw[nil (l:=v.bytes) aa,nil (l:=w.bytes) aa]) ?_ q1,q3⟩;by_cases e4:v.kind=4
  ·have l1:v.names.length=v.parts.length:=aa;have l2:w.names.length=w.parts.length:=aa;refine List.ext_getElem aa λj h1 h2=>?_;have:=q2 e4 j aa aa;rwa [LF,LF,a8 h1,a8 h2]at this
  ·rw[nil (l:=v.names) aa,nil (l:=w.names) aa]
theorem PX(hB:VB 1048576 v)(h:(bI v).1=0):HJ v:=by
 refine⟨hB,0,0,?_⟩;unfold bI at h;split at h
 ·rename_i e he;exact absurd h (DQ he)
 ·rename_i m he;exact⟨m,he⟩
theorem Zn{w:ar}(hB:VB 1048576 v)(h:(bI v).1=0)(hB':VB 1048576 w)(h':(bI w).1=0):enc v=enc w↔v=w :=
 ⟨λe=>(Zp v (x:=[]) (y:=[]) (PX hB h) (PX hB' h') (by rw[e])).1,λe=>by rw[e]⟩
theorem N9:∀(a b:ad),Lib.compareBytes a b=0↔a=b
 | [],[]=>by simp[Lib.compareBytes]
 | [],_::_=>by simp[Lib.compareBytes]
 | _::_,[]=>by simp[Lib.compareBytes]
 | a::xs,b::ys=>by
  unfold Lib.compareBytes;by_cases h1:a<b
  ·rw[if_pos h1];constructor
   ·intro h;cases h
   ·intro h;injection h with h2 _
    subst h2;exact absurd h1 ai
  ·rw[if_neg h1];by_cases h2:b<a
   ·rw[if_pos h2];constructor
    ·intro h;cases h
    ·intro h;injection h with h3 _
     subst h3;exact absurd h2 ai
   ·rw[if_neg h2,N9 xs ys];have e:a=b:=UInt8.le_antisymm (UInt8.not_lt.1 h2) (UInt8.not_lt.1 h1);rw[e];simp
theorem GP(h:ay w s l):(Extern.Bytes.bytesOf s.v).run P w=.ok ⟨l.toArray⟩ w:=by
 obtain⟨a,n,c⟩:=s;have hn:n=l.length:=h.len;have hc:Cells w a (l.flatMap aE):=h.cells;rw[fc]at hc;cases a with
 | none =>
  have:l=[]:=by
   cases l with
   | nil=>rfl
   | cons x r =>
    have:=hc.1 ai;cases this
  subst this;rfl
 | some p =>
  have hl:=Lib.run_loadBytesX (P:=P) w (l.map λb=>(b.toNat:Int)) p .empty (λj x hj=>by
   rw[eu]at hj;cases hb:l[j]? with
   | none=>rw[hb]at hj;cases hj
   | some b =>
    rw[hb]at hj;cases hj;have hp:(some p:Option Addr)=some ⟨bD (some p),bw (some p),none⟩:=hc.1 (by rintro e;rw[List.map_eq_nil_iff]at e;rw[e]at hb;cases hb);have qH:p=⟨bD (some p),bw (some p),none⟩:=kX hp;have e:p.add j=⟨bD (some p),bw (some p)+j,none⟩:=by
     conv=>lhs;rw[qH]
     exact addr_add _ _ j
    rw[e];exact hc.2 j _ (by rw[eu,hb];rfl))
  rw[bu,<-hn]at hl;show(Extern.Bytes.loadBytes p n .empty).run P w=_;rw[hl];congr 1;apply ByteArray.ext;show(#[]:Array UInt8)++(Lib.bytesOf (l.map λb=>(b.toNat:Int))).toArray=l.toArray;have:Lib.bytesOf (l.map λb=>(b.toNat:Int))=l:=by
   unfold Lib.bytesOf;rw[List.map_map];conv=>rhs;rw[<-List.map_id l]
   exact List.map_congr_left λx _=>by simp
  rw[this];simp
theorem af3{x y:Sl}{a:ad}(hx:ay w x a)(hy:ay w y b):(Extern.BytealgCompare.compare #[x.v,y.v]).run P w=.ok (iv (Lib.compareBytes a b)) w:=by
 change Sem.run P (do pure (goInt (Extern.BytealgCompare.cmp (<-Extern.Bytes.bytesOf x.v) (<-Extern.Bytes.bytesOf y.v)))) w=_;simp only[Sem.run_bind,Sem.run_pure,GP hx,GP hy,Result.andThen];rw[Lib.cmp_eq];rfl
theorem agu{x y:Sl}{a:ad}(hx:ay w x a)(hy:ay w y b):Calls Tryz.prog 242 #[x.v,y.v] w λe w'=>e=.returned (iv (Lib.compareBytes a b))/\w'=w:=by
 go_enter Tryz.func242,Tryz.ntmps242;go_wp2;rw[run_callFunc_extern Tryz.func285 aj aj aj (e:=Extern.BytealgCompare.compare) aj,af3 hx hy];simp only[Result.andThen];rw[Oper.upon_value];go_wp2;go_ret;exact⟨rfl,rfl⟩
theorem YA(hV:Sub V W){x y:Sl}{a b:ad}(hx:ay V x a)(hy:ay V y b):aC 242 [x.v,y.v] W λv w'=>v=iv (Lib.compareBytes a b)/\Rel W V [] V w' :=
 eD.sF Tryz.func242 aj aj (Calls.lM (agu (hx.up hV) (hy.up hV)) λe w' ⟨he,hw⟩=>⟨_,he,rfl,by rw[hw];exact Rel.start hV⟩)
section
variable{V W:ae}
theorem Ii(hV:Sub V W){h g:VH}{v u:ar}(hv:bV V h v)(hu:bV V g u)(hB:VB 1048576 v)(hB':VB 1048576 u)(hf:(bI v).1=0)(hf':(bI u).1=0):aC 157 [fb h,fb g] W λq w'=>∃(V':ae) (c:Int),Sub V V'/\Rel W V [] V' w'/\q=.tuple #[iv c,kg 0 0]/\(c=0↔v=u):=by
 have H:=Rel.start hV;have hv0:=hv;have hu0:=hu;obtain⟨k,n,bs,ss,pl⟩:=h;obtain⟨k',n',XX,ss',pl'⟩:=g;change aC 157 [.agg [iv k,iv n,bs.v,ss.v,pl.v].toArray,.agg [iv k',iv n',XX.v,ss'.v,pl'.v].toArray] W _;refine eV Tryz.func157 31 [0,1,2,3,4,5,6,7,8,16,25] ?_;refine wk ?_;refine H.nA ?_;clear H;intro w b2 H;refine wk ?_;refine H.nA ?_;clear H;intro w b3 H;refine wk ?_;refine H.nA ?_;clear H;intro w b5 H;refine wk ?_;refine(IK H.data hv0 hB).use ?_;rintro q w⟨V2,r2,hV2,K,rfl,hr2⟩;(replace H:=H.az K);rw[oQ hf]at hr2 |-;obtain⟨_,hr2⟩:=hr2.resolve_left λh=>h.1 rfl;refine wk ?_;refine H.nA ?_;clear H;intro w b7 H;refine H.wg ?_;clear H;intro w H;refine(IK H.data (hu0.up hV2) hB').use ?_;rintro q w⟨V3,r3,aw,K,rfl,cL⟩;(replace H:=H.az K);rw[oQ hf']at cL |-;obtain⟨_,cL⟩:=cL.resolve_left λh=>h.1 rfl;refine H.wg ?_;clear H;intro w H;refine(YA H.data (hr2.up aw) cL).use ?_;rintro q w⟨rfl,K⟩;(replace H:=H.az K);refine H.wg ?_;clear H;intro w H;exact⟨V3,_,hV2.trans aw,H.sx,rfl,by rw[N9,Zn hB hf hB' hf']⟩
end
end Go.Proofs.YtmoiobegbpkkbaaGreatDoor
