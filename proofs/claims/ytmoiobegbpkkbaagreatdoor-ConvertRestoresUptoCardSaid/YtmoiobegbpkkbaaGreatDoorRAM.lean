import Derived.Test.YtmoiobegbpkkbaaGreatDoorRAK
import Derived.Test.YtmoiobegbpkkbaaGreatDoorRAL
open Int renaming toNat_natCast->e8
open List renaming getElem?_map->eu,getElem?_range->pP,all_eq_true->bj,getElem?_eq_none->jk,mem_cons->bB,append_nil->cm,length_nil->aI,length_cons->av,take_of_length_le->bR,drop_of_length_le->pW,append_assoc->bJ,cons_append->aL,nil_append->aA,mem_map->cG,length_append->aq,length_take->bb,length_drop->bd,take_zero->q8,length_singleton->cQ,flatMap_cons->bz,mem_append->cq,getElem_mem->cj,set_cons_succ->iR,nil_sublist->uf,take_succ_eq_append_getElem->bZ,flatMap_append->bT,flatMap_nil->gB,drop_zero->kZ,getElem?_eq_getElem->a8,set_cons_zero->bC,flatten_cons->ji,flatten_nil->ui,length_map->bu,map_append->eZ,length_pos_iff->jF,length_range->qX,flatMap_singleton->Gt
open List.Sublist renaming refl->pO
open Nat renaming le_refl->aK,pow_le_pow_right->AY,mul_one->uj,mul_le_mul->lU,lt_of_le_of_lt->LD
open Option renaming map_some->gA
namespace Go.Proofs.YtmoiobegbpkkbaaGreatDoor
open Go Go.RowKit
set_option maxRecDepth 100000
set_option maxHeartbeats 8000000
variable{x:ao}{w:ae}{k:ao->ae->Prop}{l:ad}{c n b e:Nat}{v:ar}{aH:List bS}
section
variable{V W:ae}
theorem Vi(hV:Sub V W)(hT:Lib.Utf8Tabs 0 1 V){s:Sl}{l:ad}(hs:ay V s l)(hl:l.length<=1099511627776):aC 55 [s.v] W (l9 W V (br (iU l) l.length)):=by
 have H:=Rel.start hV;have hlen:=hs.len;refine eV Tryz.func55 35 [0,2,3,4,5,6,7,8,11,20] ?_;refine wk ?_;refine H.nA ?_;clear H;intro w b2 H;refine wk ?_;refine H.nA ?_;clear H;intro w b4 H;by_cases hbig:1000<l.length
 ·have e:br (iU l) l.length=⟨zeroV,[],3, -1⟩:=by unfold br;rw[if_pos hbig]
  rw[e];refine wk ?_;refine(ER H.data 3 (-1)).use ?_;rintro q w⟨rfl,K⟩;(replace H:=H.az K);refine H.wg ?_;clear H;intro _ w H;exact⟨V,eR,⟨none,0,0⟩,Sub.refl _,H.sx,rfl,lu _,aB.nil _ _⟩
 refine wk ?_;refine(Y6 H.data hT hs aa).use ?_;rintro q w⟨V2,r,hV2,K,rfl,hr⟩;(replace H:=H.az K);obtain⟨he,e5,hch⟩:=Py l;obtain⟨l1,l2⟩:=Pc hch he;obtain⟨cs,hcs⟩:∃cs,cs=(jw l).1:=⟨_,rfl⟩
 obtain⟨e,Qz⟩:∃e,e=(jw l).2:=⟨_,rfl⟩
 rw[<-hcs]at hr hch l1 l2;rw[<-Qz]at e5 |-;have hto:iU l=if cs.any (λc=>decide (B2 c))=true then none else some (jL ((lines cs).1.flatMap bM),mQ e (lines cs).2):=by unfold iU;rw[<-hcs,<-Qz]
 refine wk ?_;refine(YD (g:=121) (caps:=[]) H.data hr aa (λc=>decide (B2 c)) (λx _ w hw=>Y3 hw x)).use ?_;rintro q w⟨rfl,K⟩;(replace H:=H.az K);cases hd:cs.any (λc=>decide (B2 c))with
 | true =>
  rw[hd,if_pos rfl]at hto;have e:br (iU l) l.length=⟨zeroV,[],21, -1⟩:=by unfold br;rw[if_neg hbig,hto]
  rw[e];refine wk ?_;refine(ER H.data 21 (-1)).use ?_;rintro q w⟨rfl,K⟩;(replace H:=H.az K);refine H.wg ?_;clear H;intro _ w H;exact⟨V2,eR,⟨none,0,0⟩,hV2,H.sx,rfl,lu _,aB.nil _ _⟩
 | false =>
  rw[hd,if_neg ai]at hto;have e2:br (iU l) l.length=⟨jL ((lines cs).1.flatMap bM),mQ e (lines cs).2,0,0⟩:=by unfold br;rw[if_neg hbig,hto]
  rw[e2];obtain⟨a1,a2,a3,a4,a5⟩:=FI _ cs (aK _);obtain⟨r1,r2,r3,r4,r5⟩:=uv (lines cs).2;have ho:=Bb (r3 a2 3 (by
   cases hk:(lines cs).2 with
   | nil=>simp
   | cons k ks=>have:=a2 k (by rw[hk];simp);simp;omega))
  have hr1:∀r∈dG (lines cs).2,1<=r.2:=GS (r3 a2 3 (by
   cases hk:(lines cs).2 with
   | nil=>simp
   | cons k ks=>have:=a2 k (by rw[hk];simp);simp;omega))
  refine wk ?_;refine(ad9 H.data hr aa hch).use ?_;rintro q w⟨V3,ra,rb,aw,K,rfl,hra,jz⟩;(replace H:=H.az K);refine wk ?_;refine(ZZ H.data e5 jz aa (λr hr=>⟨(ho.2 r hr).1,hr1 r hr,by have:=(ho.2 r hr).2;omega⟩)).use ?_;rintro q w⟨rc,rfl,K⟩;(replace H:=Rel.call H K);simp only[aL,aA]at H;rw[r1]at H;have hres:(if iu e (lines cs).2=true then[]else rE e (dG (lines cs).2))=mQ e (lines cs).2:=rfl;rw[hres]at H;obtain⟨V4,aG,H,je⟩:=Rel.aT H (λ_=>rfl) ag;refine H.wg ?_;clear H;intro _ w H;exact⟨V4,iZ ra,rc,(hV2.trans aw).trans aG,H.sx,rfl,y7 (hra.up aG),je⟩
end
abbrev I1(f:FuncId):ao:=.func (.func f) #[] #[]
abbrev nC(a b c:FuncId):ao:=.agg #[I1 a,I1 b,I1 c]
def tq:Nat->ao
 | 0=>.iface 58 (.agg #[])
 | 1=>.iface 73 (nC 55 56 57)
 | 2=>.iface 73 (nC 58 59 60)
 | 3=>.iface 73 (nC 61 62 63)
 | 4=>.iface 73 (nC 64 65 66)
 | 5=>.iface 73 (nC 67 68 69)
 | _=>.iface 73 (nC 70 71 72)
theorem acZ(hk:k (.iface 58 x) w):bo Tryz.prog (Instr.makeInterface 58 x) w k:=.of (by simp[Instr.makeInterface,run_underlying Tryz.underlying58]) hk
theorem acY(hk:k (.iface 73 x) w):bo Tryz.prog (Instr.makeInterface 73 x) w k:=.of (by simp[Instr.makeInterface,run_underlying Tryz.underlying73]) hk
theorem acW(u:ao):Bv Tryz.prog 73 u "scriptorium/convert.to" 401 u:=λw=>by kernel_rfl
section
variable{V W:ae}
theorem ZI(hV:Sub V W)(c i:Int):aC 21 [iv c,iv i] W λv w'=>v=kg c i/\Rel W V [] V w':=by
 have H:=Rel.start hV;refine eV Tryz.func21 8 [0,1,4] ?_;refine H.wg ?_;clear H;intro _ _ w H;exact H.sx
theorem PC(hV:Sub V W){z:Int}(hz:0<=z/\z<7):aC 22 [iv z] W λv w'=>v=.tuple #[tq z.toNat,.bool true]/\Rel W V [] V w':=by
 have H:=Rel.start hV;refine eV Tryz.func22 29 [0,2,3,4,25] ?_;refine wk ?_;refine acZ ?_;refine wk ?_
 iterate 6
  refine acY ?_;refine wk ?_
 refine bo.of (v:=.agg #[tq 0,tq 1,tq 2,tq 3,tq 4,tq 5,tq 6]) (w':=W) aj ?_;refine wk ?_;refine H.nA ?_;clear H;intro w b4 H;have h7:z=0\/z=1\/z=2\/z=3\/z=4\/z=5\/z=6:=aa;rcases h7 with rfl|rfl|rfl|rfl|rfl|rfl|rfl
 all_goals
  refine H.wg ?_;clear H;intro w H;exact H.sx
theorem AK(hV:Sub V W){a b c:FuncId}{s:Sl}{x:HI}(hto:∀ {W:ae},Sub V W->oD a [s.v].toArray W (l9 W V x)):aC 401 [nC a b c,s.v] W (l9 W V x):=by
 have H:=Rel.start hV;refine eV Tryz.func401 14 [0,1,2,4,5,6] ?_;refine wk ?_;refine H.nA ?_;clear H;intro w b2 H;refine wk ?_;refine H.nA ?_;clear H;intro w b4 H;refine wk ?_;refine H.nA ?_;clear H;intro w b6 H;refine wk ?_;refine(hto H.data).use ?_;rintro q w⟨V2,h,r,hV2,K,rfl,hv,hr⟩;(replace H:=Rel.call H K);simp only[aA]at H;refine H.wg ?_;clear H;intro _ w H;exact⟨V2,h,r,hV2,H.sx,rfl,hv,hr⟩
theorem yw(hV:Sub V W){a b c:FuncId}{h:VH}{s:Sl}{x:ad×Int×Int}(hfr:∀ {W:ae},Sub V W->oD b [fb h,s.v].toArray W (mT W V x)):aC 400 [nC a b c,fb h,s.v] W (mT W V x):=by
 have H:=Rel.start hV;refine eV Tryz.func400 15 [0,1,2,3,4,6,7] ?_;refine wk ?_;refine H.nA ?_;clear H;intro w b3 H;refine wk ?_;refine H.nA ?_;clear H;intro w b4 H;refine wk ?_;refine H.nA ?_;clear H;intro w b7 H;refine wk ?_;refine(hfr H.data).use ?_;rintro q w⟨V2,r,hV2,K,rfl,hr⟩;(replace H:=Rel.call H K);simp only[aA]at H;refine H.wg ?_;clear H;intro w H;exact⟨V2,r,hV2,H.sx,rfl,hr⟩
end
structure nT(V:ae):Prop where
 tb:nW V
 nm:mW V
 mb:mV V
 mt:s6 V
theorem nT.up{V V':ae}(h:nT V)(k:Sub V V'):nT V':=⟨sV h.tb k,h.nm.up k,h.mb.up k,h.mt.up k⟩
def j9:Nat->ad->Option (ar×ad)
 | 0=>fU
 | 1=>gk
 | 2=>gL
 | 3=>gE
 | 4=>gO
 | _=>iU
def RH:Nat->Int
 | 0=>3
 | 1=>2
 | 2=>6
 | 3=>4
 | 4=>5
 | _=>1
theorem Og{j:Nat}{x:ar×ad}(hj:j<6)(hn:∀i,i<j->j9 i l=none)(hx:j9 j l=some x):iJ l=w8 (RH j) x:=by
 have h6:j=0\/j=1\/j=2\/j=3\/j=4\/j=5:=aa;have g:=λi hi=>hn i hi;rcases h6 with rfl|rfl|rfl|rfl|rfl|rfl<;>unfold iJ
 ·have h0:fU l=some x:=hx;rw[h0];rfl
 ·have h0:fU l=none:=hn 0 aa;have h1:gk l=some x:=hx;rw[h0,h1];rfl
 ·have h0:fU l=none:=hn 0 aa;have h1:gk l=none:=hn 1 aa;have h2:gL l=some x:=hx;rw[h0,h1,h2];rfl
 ·have h0:fU l=none:=hn 0 aa;have h1:gk l=none:=hn 1 aa;have h2:gL l=none:=hn 2 aa;have h3:gE l=some x:=hx;rw[h0,h1,h2,h3];rfl
 ·have h0:fU l=none:=hn 0 aa;have h1:gk l=none:=hn 1 aa;have h2:gL l=none:=hn 2 aa;have h3:gE l=none:=hn 3 aa;have h4:gO l=some x:=hx;rw[h0,h1,h2,h3,h4];rfl
 ·have h0:fU l=none:=hn 0 aa;have h1:gk l=none:=hn 1 aa;have h2:gL l=none:=hn 2 aa;have h3:gE l=none:=hn 3 aa;have h4:gO l=none:=hn 4 aa;have h5:iU l=some x:=hx;rw[h0,h1,h2,h3,h4,h5];rfl
theorem Oh(hn:∀i,i<6->j9 i l=none):iJ l=(0,.mk 2 0 l [] [],[]):=by
 unfold iJ;have h0:fU l=none:=hn 0 aa;have h1:gk l=none:=hn 1 aa;have h2:gL l=none:=hn 2 aa;have h3:gE l=none:=hn 3 aa;have h4:gO l=none:=hn 4 aa;have h5:iU l=none:=hn 5 aa;rw[h0,h1,h2,h3,h4,h5]
abbrev Lc(k:Int)(h:VH)(r:Sl):ao:=.agg (iv k::(cr h++[r.v])).toArray
structure WG(W V:ae)(x:wH×Int×Int)(q:ao)(w':ae):Prop where
 ex:∃(V':ae) (h:VH) (r:Sl),Sub V V'/\Rel W V [] V' w'/\q=.tuple #[Lc x.1.1 h r,kg x.2.1 x.2.2]/\bV V' h x.1.2.1/\ay V' r x.1.2.2
def rP(l:ad):wH×Int×Int:=if 1000<l.length then((0,zeroV,[]),3, -1)else(iJ l,0,0)
section
variable{V W:ae}
theorem ad8(hV:Sub V W){s:Sl}{l:ad}(hs:ay V s l)(hl:l.length<=1000000):aC 23 [.agg #[],s.v] W (l9 W V ⟨.mk 2 0 l [] [],[],0,0⟩):=by
 have H:=Rel.start hV;refine eV Tryz.func23 11 [0,1,4,5,6] ?_;refine wk ?_;refine H.nA ?_;clear H;intro w b2 H;refine wk ?_;refine H.nA ?_;clear H;intro w b4 H;refine wk ?_;refine H.nA ?_;clear H;intro w b6 H;refine wk ?_;refine(uU H.data hs aa).use ?_;rintro q w⟨r,rfl,K⟩;(replace H:=Rel.call H K);simp only[aL,aA]at H;obtain⟨V2,hV2,H,hr⟩:=Rel.aT H (λ_=>rfl) ag;refine H.wg ?_;clear H;intro _ w H;exact⟨V2,iZ r,⟨none,0,0⟩,hV2,H.sx,rfl,y7 hr,aB.nil _ _⟩
theorem acJ(hV:Sub V W){s:Sl}{l:ad}(hs:ay V s l)(hl:l.length<=1048576):aC 401 [nC 61 62 63,s.v] W (l9 W V (br (j9 0 l) l.length)):=AK hV λh=>Vf h hs aa
theorem acI(hV:Sub V W){s:Sl}{l:ad}(hs:ay V s l)(hl:l.length<=1048576):aC 401 [nC 58 59 60,s.v] W (l9 W V (br (j9 1 l) l.length)):=AK hV λh=>Ve h hs aa
theorem acH(hV:Sub V W)(hT:nT V){s:Sl}{l:ad}(hs:ay V s l)(hl:l.length<=1048576):aC 401 [nC 70 71 72,s.v] W (l9 W V (br (j9 2 l) l.length)):=AK hV λh=>Vd h hT.mt hs aa
theorem acK(hV:Sub V W)(hT:nT V){s:Sl}{l:ad}(hs:ay V s l)(hl:l.length<=1048576):aC 401 [nC 64 65 66,s.v] W (l9 W V (br (j9 3 l) l.length)):=AK hV λh=>Vg h hT.tb hT.mb hs aa
theorem acL(hV:Sub V W)(hT:nT V){s:Sl}{l:ad}(hs:ay V s l)(hl:l.length<=1048576):aC 401 [nC 67 68 69,s.v] W (l9 W V (br (j9 4 l) l.length)):=AK hV λh=>Vh h hT.nm hs aa
theorem acM(hV:Sub V W)(hT:nT V){s:Sl}{l:ad}(hs:ay V s l)(hl:l.length<=1048576):aC 401 [nC 55 56 57,s.v] W (l9 W V (br (j9 5 l) l.length)):=AK hV λh=>Vi h hT.tb hs aa
theorem Hd(hV:Sub V W)(hT:nT V){s:Sl}{l:ad}(hs:ay V s l)(hl:l.length<=1048576):aC 9 [s.v] W (WG W V (rP l)):=by
 have H:=Rel.start hV;have hlen:=hs.len;refine eV Tryz.func9 56 [0,2,3,5,6,8,9,10,11,13,16,19,20,21,22,39] ?_;refine wk ?_;refine H.nA ?_;clear H;intro w b2 H;refine wk ?_;refine H.nA ?_;clear H;intro w b3 H;by_cases hbig:1000<l.length
 ·have e:rP l=((0,zeroV,[]),3, -1):=if_pos hbig;rw[e];refine wk ?_;refine(ZI H.data _ _).use ?_;rintro q w⟨rfl,K⟩;(replace H:=H.az K);refine H.wg ?_;clear H;intro _ w H;exact⟨V,eR,⟨none,0,0⟩,Sub.refl _,H.sx,rfl,lu _,aB.nil _ _⟩
 have e:rP l=(iJ l,0,0):=if_neg hbig;rw[e];refine wk ?_;refine H.nA ?_;clear H;intro w b4 H;refine wk ?_;refine aP.cut 0 (λ_:Unit=>[(0,s.v),(2,.pointer (some ⟨b2,0,none⟩)),(3,.pointer (some ⟨b3,0,none⟩))]) (λ_ w'=>(∀i,i<6->j9 i l=none)/\∃V',Sub V V'/\Rel W V [.ax b3 [iv 0,iv 0] 31,.ax b2 (iv 0::(cr eR++[.slice none 0 0])) 29] V' w') ?_ ?_
 ·refine aY (S:=Nat) ah [0,2,3,11,13,16,19,20] (λj=>[(21,iv j)]) (λj w'=>j<=6/\(∀i,i<j->j9 i l=none)/\∃V',Sub V V'/\Rel W V [.ax b4 [iv 3,iv 2,iv 6,iv 4,iv 5,iv 1] 3,.ax b3 [iv 0,iv 0] 31,.ax b2 (iv 0::(cr eR++[.slice none 0 0])) 29] V' w') (λj _=>6-j) 0 ?_;conv=>whnf
  refine⟨sB,⟨aa,λi hi=>absurd hi aa,V,Sub.refl _,H.sx⟩,?_⟩;clear H;rintro j w⟨hj,hn,V1,hV1,H⟩;by_cases h6:j=6
  ·subst h6;refine wk ?_;exact⟨(),sB,hn,V1,hV1,H.sx⟩
  have hj6:j<6:=aa;have h7:j=0\/j=1\/j=2\/j=3\/j=4\/j=5:=aa;rcases h7 with rfl|rfl|rfl|rfl|rfl|rfl
  all_goals
   refine wk ?_;refine(PC H.data ag).use ?_;rintro q w⟨rfl,K⟩;(replace H:=H.az K);refine wk ?_;refine⟨_,_,acW _,?_⟩
   first
    | refine(acJ H.data (hs.up hV1) hl).use ?_
    | refine(acI H.data (hs.up hV1) hl).use ?_
    | refine(acH H.data (hT.up hV1) (hs.up hV1) hl).use ?_
    | refine(acK H.data (hT.up hV1) (hs.up hV1) hl).use ?_
    | refine(acL H.data (hT.up hV1) (hs.up hV1) hl).use ?_
    | refine(acM H.data (hT.up hV1) (hs.up hV1) hl).use ?_
   rintro q w⟨V2,h,r,hV2,K,rfl,hv,hr⟩;(replace H:=H.az K);generalize ho:j9 _ l=o at hv hr |-;unfold br at hv hr |-;rw[if_neg hbig]at hv hr |-;cases o with
   | none =>
    dsimp only at hv hr |-;refine wk ?_;refine H.nA ?_;clear H;intro w b8 H;refine wk ?_;refine H.nA ?_;clear H;intro w ix H;refine H.wg ?_;clear H;intro _ w H
    first
     | refine⟨sB,1,sB,⟨aa,?_,V2,hV1.trans hV2,H.sx⟩,aa⟩
     | refine⟨sB,2,sB,⟨aa,?_,V2,hV1.trans hV2,H.sx⟩,aa⟩
     | refine⟨sB,3,sB,⟨aa,?_,V2,hV1.trans hV2,H.sx⟩,aa⟩
     | refine⟨sB,4,sB,⟨aa,?_,V2,hV1.trans hV2,H.sx⟩,aa⟩
     | refine⟨sB,5,sB,⟨aa,?_,V2,hV1.trans hV2,H.sx⟩,aa⟩
     | refine⟨sB,6,sB,⟨aa,?_,V2,hV1.trans hV2,H.sx⟩,aa⟩
    intro i hi;rcases Nat.lt_succ_iff_lt_or_eq.1 hi with h|rfl
    ·exact hn i h
    ·exact ho
   | some x =>
    rw[Og hj6 hn ho];dsimp only at hv hr |-;refine wk ?_;refine H.nA ?_;clear H;intro w b8 H;refine wk ?_;refine H.nA ?_;clear H;intro w ix H;refine H.wg ?_;clear H;intro _ _ _ w H;exact⟨V2,h,r,hV1.trans hV2,H.sx,rfl,hv,hr⟩
 clear H;rintro⟨⟩w⟨hn,V1,hV1,H⟩;rw[Oh hn];refine wk ?_;refine(ad8 H.data (hs.up hV1) aa).use ?_;rintro q w⟨V2,h,r,hV2,K,rfl,hv,hr⟩;(replace H:=H.az K);dsimp only at hv hr |-;refine wk ?_;refine H.nA ?_;clear H;intro w tg H;refine wk ?_;refine H.nA ?_;clear H;intro w iX H;refine H.wg ?_;clear H;intro _ w H;(first|refine lA (id:=12) ah mixed (dB [b2]) (λ_ _ _=>dB.trans) [3] [2] [0,1,2,3,4] aj ?_);intro w aR;replace H:=Rel.ext H aR.ext;refine wk ?_;refine And.intro (λw1 kU=>?_) ?_;focus (obtain⟨_,H1⟩:=Rel.ux H (i:=3) rfl rfl kU;clear H;have H:=H1;clear H1;((repeat ((conv=>whnf);first|refine an ?_|((first|refine H.pH ?_|refine H.nw ?_);clear H;intro w _ H)|refine H.ce ?_|refine H.db ?_|refine ea ?_|refine ol ?_|(refine H.st ?_;(conv=>whnf);clear H;intro w H)|refine cT ?_|refine cF ?_|refine cN ?_|refine cM ?_|refine H.lw ?_|refine H.ll ?_));(conv=>whnf));try exact⟨rfl,rfl⟩)
 refine wk ?_;refine Rel.uz H (i:=3) rfl ?_;(conv=>whnf);clear H;intro w H;refine H.wg ?_;clear H;intro w H;exact⟨V2,h,⟨none,0,0⟩,hV1.trans hV2,H.sx,rfl,hv,aB.nil _ _⟩
end
theorem VM(h:c≠10)(r ks:au):gP (c::r) ks=(gP r ks).map (c::·):=by simp only[gP];rw[if_neg h]
theorem VK(r:au)(k:Nat)(ks:au):gP (10::r) (k::ks)=(gP r ks).map (B6 k++·):=by simp only[gP,if_true]
theorem VL(r:au):gP (10::r) []=none:=by simp only[gP,if_true]
theorem Un(k n:Nat)(rs:List dA):dN ((k,n+1)::rs)=k::dN ((k,n)::rs):=rfl
theorem Ml(k:Nat)(rs:List dA):dN ((k,0)::rs)=dN rs:=rfl
theorem Mm(ds:List dA)(k n:Nat)(rs:List dA):((aZ (ds++(k,n+1)::rs)).flatMap eO).set (ds.length*2+1) (iv (n:Int))=(aZ (ds++(k,n)::rs)).flatMap eO:=by
 have hl:((aZ ds).flatMap eO).length=ds.length*2:=by rw[pf (n:=2) (λ_=>rfl)];simp[aZ]
 unfold aZ;rw[eZ,bT,eZ,bT];unfold aZ at hl;rw[List.set_append_right _ _ aa,hl,show ds.length*2+1-ds.length*2=1 by omega];rfl
theorem MA{a:Option Addr}(h:Plain a){l m n:Nat}(hm:m≠l):aU a l m n=some ⟨bD a,bw a+l*n,none⟩:=by
 have:=yV h (l:=l) (m:=m) (size:=n);rw[Plain,yT,yU h hm]at this;exact this
theorem ZU{α:Type}{f:α->aD}{l:List α}(h:∀x,(f x).all Value.oneCell'=true):∀u∈l.flatMap f,u.oneCell'=true:=by
 intro u hu;obtain⟨x,_,hx⟩:=List.mem_flatMap.1 hu;exact bj.1 (h x) u hx
structure W7(rc r7:Sl)(d:Nat)(rs:List dA):Prop where
 len:r7.len=rs.length
 cap:r7.len<=r7.cap
 at_:rs≠[]->r7.a=some ⟨bD rc.a,bw rc.a+d*2,none⟩
section
variable{V W:ae}
theorem Ys(hV:Sub V W){s:Sl}{l:List bQ}(hs:aB eO V s l)(hl:l.length<=1000000000):aC 205 [s.v] W λv w'=>∃t:Sl,v=t.v/\Rel W V [.row t 250 2 (l.flatMap eO)] V w':=by
 have H:=Rel.start hV;have hlen:=hs.len;refine eV Tryz.func205 8 [0,2,4] ?_;rcases s with⟨_|p,n,c⟩
 ·have tN:l=[]:=by
   rcases l with _|⟨b,l⟩
   ·rfl
   ·have:=hs.cells.1 (by simp[eO]);simp[Plain]at this
  subst tN;refine wk ?_;exact⟨⟨none,0,0⟩,rfl,H.cb _ _⟩
 ·refine wk ?_;refine H.nA ?_;clear H;intro w b5 H;refine wk ?_;replace H:=H.fA (n:=0) (e:=250) (sz:=2) rfl (by simp[maxLen]);refine Rel.NH (s:=⟨some ⟨b5,0,none⟩,0,0⟩) (x:=⟨some p,n,c⟩) ah rfl rfl rfl rfl rfl ag H (hs.up H.data).cells (pf (n:=2) (λ_=>rfl) l |>.trans (by rw[<-hlen])) (ZU (λ_=>rfl)) (by simp;dsimp only at hlen;omega) (by simp;dsimp only at hlen;omega) ?_;clear H;intro rn w H hrn;refine wk ?_;exact⟨rn,rfl,H⟩
theorem abV(hV:Sub V W){s:Sl}{t:ad}(hs:ay V s t)(htl:t.length<=1048576){l:au}(hc:chars t=some l){e:Nat}{q:Sl}{rs:List dA}(hq:aB eO V q (aZ rs))(hrl:rs.length<=1000)(hr1:∀r∈rs,r.1<3/\1<=r.2/\r.2<=1000)(htr:iu e (dN rs)=true->rs=[]) :
  aC 127 [s.v,.agg (vY e q).toArray] W (Ns W V (if iu e (dN rs)=true then some l else gP l (dN rs))):=by
 have H:=Rel.start hV;have hlen:=hs.len;have eE:(aZ rs).length=rs.length:=by simp[aZ]
 have hsz:(ByteArray.mk t.toArray).size=t.length:=rfl;refine eV Tryz.func127 69 [0,1,3,4,5,6,7,9,15,16,17,24,31,35,36,41,46,62] ?_;refine wk ?_;refine H.nA ?_;clear H;intro w b3 H;refine wk ?_;refine(Ys H.data hq aa).use ?_;rintro v w⟨rc,rfl,K⟩;(replace H:=Rel.call H K);simp only[aL,aA]at H;have tH:Cells w s.a (t.map bv):=fc t▸(hs.up H.data).cells;have Re:=H.gn (i:=0) rfl (λ_=>rfl) ag;refine wk ?_;replace H:=H.cb 21 1;refine Rel.range ah rfl rfl H ?_;clear H;intro w bi H;refine wk ?_;cases ht:iu e (dN rs)with
 | true =>
  have hrs:=htr ht;rw[if_pos rfl];refine aY (S:=Nat×Sl×au) ah [0,1,3,15] (λq=>[(6,q.2.1.v),(7,rc.v)]) (λq' w'=>q'.1<=t.length/\(chars (t.drop q'.1)).isSome=true/\chars t=(chars (t.drop q'.1)).map (q'.2.2++·)/\q'.2.2.length<=q'.1/\Rel W V [.obj bi (.stringIter ⟨t.toArray⟩ q'.1),.row q'.2.1 21 1 (q'.2.2.flatMap ew),.ax b3 (vY e q) 150] V w') (λq _=>t.length-q.1) (0,⟨none,0,0⟩,[]) ?_;conv=>whnf
  refine⟨sB,⟨aa,by rw[kZ,hc];rfl,ai,aK _,H.sx⟩,?_⟩;clear H;rintro⟨p,r6,out⟩w⟨hp,jW,heq,gV,H⟩;dsimp only at hp jW heq gV H |-;conv=>whnf
  refine Rel.next H (λhlt w H=>?_) (λhlt=>?_)
  ·have qF:p<t.length:=hlt;obtain⟨c,n,hcc,QP,vo,hn2,hst⟩:=H9 jW qF;rw[IH hcc]at H |-;dsimp only at H |-;have qC:(chars (t.drop (p+n))).isSome=true:=by
    rw[hst]at jW;cases hq:chars (t.drop (p+n))with
    | none=>rw[hq]at jW;cases jW
    | some _=>rfl
   by_cases lD:c=10
   ·refine wk ?_;refine(Hg H.data e hq aa (λr hr=>(hr1 r hr).2.1)).use ?_;rintro v w⟨rfl,K⟩;(replace H:=H.az K);rw[ht];refine H.wg ?_;clear H;intro _ w H;refine Rel.dI (f:=ew) (l:=out) (x:=c) ah rfl rfl rfl rfl rfl ag (λ_=>rfl) (bj.1 rfl) H (by show(out.length+1)*4<=_;omega) aa ?_;clear H;intro rn w H;refine wk ?_;refine⟨sB,(p+n,rn,out++[c]),sB,⟨by dsimp only;omega,by dsimp only;exact qC,?_,by dsimp only;rw[aq,cQ];omega,H.sx⟩,by dsimp only;omega⟩;dsimp only;rw[heq,hst];exact nq out [c] _
   ·refine H.wg ?_;clear H;intro _ w H;refine Rel.dI (f:=ew) (l:=out) (x:=c) ah rfl rfl rfl rfl rfl ag (λ_=>rfl) (bj.1 rfl) H (by show(out.length+1)*4<=_;omega) aa ?_;clear H;intro rn w H;refine wk ?_;refine⟨sB,(p+n,rn,out++[c]),sB,⟨by dsimp only;omega,by dsimp only;exact qC,?_,by dsimp only;rw[aq,cQ];omega,H.sx⟩,by dsimp only;omega⟩;dsimp only;rw[heq,hst];exact nq out [c] _
  ·have qF:¬p<t.length:=hlt;rw[pW aa,NU,hc]at heq;have J4:out=l:=by simpa using heq.symm
   rw[J4]at H;have H0:Rel W V [.row r6 21 1 (l.flatMap ew)] V w:=H.sx;clear H;obtain⟨V3,aw,H,hr⟩:=Rel.aT H0 (λ_=>rfl) ag;clear H0;have hz:rc.len=0:=by rw[Re,eE,hrs];rfl
   refine wk ?_;exact⟨V3,r6,aw,H.sx,by rw[decide_eq_true aa],hr⟩
 | false =>
  rw[if_neg ai];refine aY (S:=Nat×Sl×au×Sl×List dA×List dA) ah [0,1,3,15] (λq=>[(6,q.2.1.v),(7,q.2.2.2.1.v)]) (λz w'=>z.1<=t.length/\(chars (t.drop z.1)).isSome=true/\(∀r,chars (t.drop z.1)=some r->gP l (dN rs)=(gP r (dN z.2.2.2.2.2)).map (z.2.2.1++·))/\z.2.2.1.length<=2*z.1/\W7 rc z.2.2.2.1 z.2.2.2.2.1.length z.2.2.2.2.2/\(∀r∈z.2.2.2.2.2,r.1<3/\1<=r.2/\r.2<=1000)/\Rel W V [.obj bi (.stringIter ⟨t.toArray⟩ z.1),.row z.2.1 21 1 (z.2.2.1.flatMap ew),.row rc 250 2 ((aZ (z.2.2.2.2.1++z.2.2.2.2.2)).flatMap eO),.ax b3 (vY e q) 150] V w') (λq _=>t.length-q.1) (0,⟨none,0,0⟩,[],rc,[],rs) ?_;conv=>whnf
  refine⟨sB,⟨aa,by rw[kZ,hc];rfl,λr hr=>?_,aK _,⟨by dsimp only;omega,?_,λhne=>?_⟩,hr1,H⟩,?_⟩
  ·dsimp only at hr |-;rw[kZ,hc]at hr;cases hr;simp
  ·exact(H.eG (i:=2) rfl (λ_=>rfl) ag).cap
  ·have hp:=(H.eG (i:=2) rfl (λ_=>rfl) ag).cells.1 (by
    cases rs with
    | nil=>exact absurd rfl hne
    | cons r rs=>simp[aZ])
   dsimp only[aI];rw[Nat.zero_mul,Nat.add_zero];exact hp
  clear H;rintro⟨p,r6,out,r7,ds,rs'⟩w⟨hp,jW,hu,gV,hR,sj,H⟩;dsimp only at hp jW hu gV hR sj H |-;have Fu:=H.gn (i:=1) rfl (λ_=>rfl) ag;have Re:=H.gn (i:=2) rfl (λ_=>rfl) ag;have aa7:(aZ (ds++rs')).length=ds.length+rs'.length:=by simp[aZ]
  have rZ:=hR.len;have hRc:=hR.cap;conv=>whnf
  refine Rel.next H (λhlt w H=>?_) (λhlt=>?_)
  ·have qF:p<t.length:=hlt;obtain⟨c,n,hcc,QP,vo,hn2,hst⟩:=H9 jW qF;rw[IH hcc]at H |-;dsimp only at H |-;have qC:(chars (t.drop (p+n))).isSome=true:=by
    rw[hst]at jW;cases hq:chars (t.drop (p+n))with
    | none=>rw[hq]at jW;cases jW
    | some _=>rfl
   obtain⟨X,hX⟩:∃X,chars (t.drop (p+n))=some X:=Option.isSome_iff_exists.1 qC;have hu2:=hu (c::X) (by rw[hst,hX];rfl);by_cases lD:c=10;rotate_left
   ·rw[VM lD]at hu2;refine H.wg ?_;clear H;intro _ w H;refine Rel.dI (f:=ew) (l:=out) (x:=c) ah rfl rfl rfl rfl rfl ag (λ_=>rfl) (bj.1 rfl) H (by show(out.length+1)*4<=_;omega) aa ?_;clear H;intro rn w H;refine wk ?_;refine⟨sB,(p+n,rn,out++[c],r7,ds,rs'),sB,⟨by dsimp only;omega,by dsimp only;exact qC,?_,by dsimp only;rw[aq,cQ];omega,hR,sj,H.sx⟩,by dsimp only;omega⟩;intro r hr;dsimp only at hr |-;rw[hX]at hr;cases hr;rw[hu2];exact nq out [c] _
   rw[lD]at hu2;refine wk ?_;refine(Hg H.data e hq aa (λr hr=>(hr1 r hr).2.1)).use ?_;rintro v w⟨rfl,K⟩;(replace H:=H.az K);rw[ht];cases rs' with
   | nil =>
    rw[show dN []=[]from rfl,VL]at hu2;rw[hu2];simp only[aI]at rZ;refine wk ?_;exact⟨V,⟨none,0,0⟩,Sub.refl _,H.sx,rfl⟩
   | cons x fT =>
    obtain⟨k,m⟩:=x;obtain⟨gU,xQ,hm2⟩:=sj (k,m) ai;dsimp only at gU xQ hm2;obtain⟨m,rfl⟩:∃j,m=j+1:=⟨m-1,aa⟩
    rw[Un,VK]at hu2;have hat:=hR.at_ ai;have J8:Plain r7.a:=by rw[hat];rfl
    have kO:bD r7.a=bD rc.a:=by rw[hat];rfl
    have si:bw r7.a=bw rc.a+ds.length*2:=by rw[hat];rfl
    simp only[av]at rZ aa7;have S1:=H.eG (i:=2) rfl (λ_=>rfl) ag;obtain⟨_,u1,_⟩:=S1.fM (g:=λr:bQ=>iv r.1) (g':=λr:bQ=>iv r.2) (λ_=>rfl) (i:=ds.length) aa;have gd:∀j,(aZ (ds++(k,j)::fT))[ds.length]'(by simp[aZ])=fJ (k,j):=λj=>by simp[aZ]
    rw[gd,<-kO,<-si]at u1;dsimp only[fJ]at u1;have pA:k=0\/k=1\/k=2:=aa;rcases pA with rfl|rfl|rfl
    ·refine wk ?_;refine H.nA ?_;clear H;intro w bq H;refine wk ?_;refine Rel.HT (s:=r6) (x:=⟨some ⟨bq,0,none⟩,1,1⟩) (xs:=out.flatMap ew) (ys:=[rv 10]) ah rfl rfl rfl rfl rfl ag H (H.ql).cells rfl (by simp[Value.oneCell']) (by show(r6.len+1)*4<=_;omega) (by dsimp only;omega) ?_;clear H;intro rn w H _;rw[show out.flatMap ew++[rv 10]=(out++[10]).flatMap ew by rw[bT];rfl]at H;have S2:=H.eG (i:=3) rfl (λ_=>rfl) ag;obtain⟨_,_,u2⟩:=S2.fM (g:=λr:bQ=>iv r.1) (g':=λr:bQ=>iv r.2) (λ_=>rfl) (i:=ds.length) aa;rw[gd,<-kO,<-si]at u2;dsimp only[fJ]at u2;refine wk ?_;rw[show(((m+1:Nat):Int)-1)=((m:Nat):Int)by omega];refine Rel.yS (i:=3) H rfl (ds.length*2+1) aa kO (by show bw r7.a+0*2+1=_;omega) ?_;clear H;intro w H;simp only[iR,bC]at H;rw[Mm]at H;have S3:=H.eG (i:=3) rfl (λ_=>rfl) ag;have QQ:(aZ (ds++(0,m)::fT)).length=ds.length+(fT.length+1):=by simp[aZ]
     obtain⟨_,_,u3⟩:=S3.fM (g:=λr:bQ=>iv r.1) (g':=λr:bQ=>iv r.2) (λ_=>rfl) (i:=ds.length) aa;rw[gd,<-kO,<-si]at u3;dsimp only[fJ]at u3;by_cases CM:m=0
     ·subst CM;refine wk ?_;refine⟨sB,(p+n,rn,out++[10],⟨aU r7.a 1 r7.cap 2,r7.len-1,r7.cap-1⟩,ds++[(0,0)],fT),sB,⟨by dsimp only;omega,by dsimp only;exact qC,?_,by dsimp only;rw[aq];simp only[av,aI];omega,⟨by dsimp only;omega,by dsimp only;omega,λhne=>?_⟩,λr hr=>sj r (by simp[hr]),?_⟩,by dsimp only;omega⟩
      ·intro r hr;dsimp only at hr |-;rw[hX]at hr;cases hr;rw[hu2,Ml];exact nq out [10] _
      ·have hpos:=jF.2 hne;dsimp only at hpos |-;rw[MA J8 aa,aq,cQ,kO,si,show bw rc.a+ds.length*2+1*2=bw rc.a+(ds.length+1)*2 by omega]
      ·dsimp only;rw[bJ];exact H.sx
     ·refine wk ?_;refine⟨sB,(p+n,rn,out++[10],r7,ds,(0,m)::fT),sB,⟨by dsimp only;omega,by dsimp only;exact qC,?_,by dsimp only;rw[aq];simp only[av,aI];omega,⟨by simp only[av];omega,by dsimp only;omega,λ_=>hat⟩,λr hr=>?_,H.sx⟩,by dsimp only;omega⟩
      ·intro r hr;dsimp only at hr |-;rw[hX]at hr;cases hr;rw[hu2];exact nq out [10] _
      ·rcases bB.1 hr with rfl|hr
       ·exact⟨gU,by dsimp only;omega,by dsimp only;omega⟩
       ·exact sj r (by simp[hr])
    ·refine wk ?_;refine H.nA ?_;clear H;intro w bq H;refine wk ?_;refine Rel.HT (s:=r6) (x:=⟨some ⟨bq,0,none⟩,2,2⟩) (xs:=out.flatMap ew) (ys:=[rv 13,rv 10]) ah rfl rfl rfl rfl rfl ag H (H.ql).cells rfl (by simp[Value.oneCell']) (by show(r6.len+2)*4<=_;omega) (by dsimp only;omega) ?_;clear H;intro rn w H _;rw[show out.flatMap ew++[rv 13,rv 10]=(out++[13,10]).flatMap ew by rw[bT];rfl]at H;have S2:=H.eG (i:=3) rfl (λ_=>rfl) ag;obtain⟨_,_,u2⟩:=S2.fM (g:=λr:bQ=>iv r.1) (g':=λr:bQ=>iv r.2) (λ_=>rfl) (i:=ds.length) aa;rw[gd,<-kO,<-si]at u2;dsimp only[fJ]at u2;refine wk ?_;rw[show(((m+1:Nat):Int)-1)=((m:Nat):Int)by omega];refine Rel.yS (i:=3) H rfl (ds.length*2+1) aa kO (by show bw r7.a+0*2+1=_;omega) ?_;clear H;intro w H;simp only[iR,bC]at H;rw[Mm]at H;have S3:=H.eG (i:=3) rfl (λ_=>rfl) ag;have QQ:(aZ (ds++(1,m)::fT)).length=ds.length+(fT.length+1):=by simp[aZ]
     obtain⟨_,_,u3⟩:=S3.fM (g:=λr:bQ=>iv r.1) (g':=λr:bQ=>iv r.2) (λ_=>rfl) (i:=ds.length) aa;rw[gd,<-kO,<-si]at u3;dsimp only[fJ]at u3;by_cases CM:m=0
     ·subst CM;refine wk ?_;refine⟨sB,(p+n,rn,out++[13,10],⟨aU r7.a 1 r7.cap 2,r7.len-1,r7.cap-1⟩,ds++[(1,0)],fT),sB,⟨by dsimp only;omega,by dsimp only;exact qC,?_,by dsimp only;rw[aq];simp only[av,aI];omega,⟨by dsimp only;omega,by dsimp only;omega,λhne=>?_⟩,λr hr=>sj r (by simp[hr]),?_⟩,by dsimp only;omega⟩
      ·intro r hr;dsimp only at hr |-;rw[hX]at hr;cases hr;rw[hu2,Ml];exact nq out [13,10] _
      ·have hpos:=jF.2 hne;dsimp only at hpos |-;rw[MA J8 aa,aq,cQ,kO,si,show bw rc.a+ds.length*2+1*2=bw rc.a+(ds.length+1)*2 by omega]
      ·dsimp only;rw[bJ];exact H.sx
     ·refine wk ?_;refine⟨sB,(p+n,rn,out++[13,10],r7,ds,(1,m)::fT),sB,⟨by dsimp only;omega,by dsimp only;exact qC,?_,by dsimp only;rw[aq];simp only[av,aI];omega,⟨by simp only[av];omega,by dsimp only;omega,λ_=>hat⟩,λr hr=>?_,H.sx⟩,by dsimp only;omega⟩
      ·intro r hr;dsimp only at hr |-;rw[hX]at hr;cases hr;rw[hu2];exact nq out [13,10] _
      ·rcases bB.1 hr with rfl|hr
       ·exact⟨gU,by dsimp only;omega,by dsimp only;omega⟩
       ·exact sj r (by simp[hr])
    ·refine wk ?_;refine H.nA ?_;clear H;intro w bq H;refine wk ?_;refine Rel.HT (s:=r6) (x:=⟨some ⟨bq,0,none⟩,1,1⟩) (xs:=out.flatMap ew) (ys:=[rv 13]) ah rfl rfl rfl rfl rfl ag H (H.ql).cells rfl (by simp[Value.oneCell']) (by show(r6.len+1)*4<=_;omega) (by dsimp only;omega) ?_;clear H;intro rn w H _;rw[show out.flatMap ew++[rv 13]=(out++[13]).flatMap ew by rw[bT];rfl]at H;have S2:=H.eG (i:=3) rfl (λ_=>rfl) ag;obtain⟨_,_,u2⟩:=S2.fM (g:=λr:bQ=>iv r.1) (g':=λr:bQ=>iv r.2) (λ_=>rfl) (i:=ds.length) aa;rw[gd,<-kO,<-si]at u2;dsimp only[fJ]at u2;refine wk ?_;rw[show(((m+1:Nat):Int)-1)=((m:Nat):Int)by omega];refine Rel.yS (i:=3) H rfl (ds.length*2+1) aa kO (by show bw r7.a+0*2+1=_;omega) ?_;clear H;intro w H;simp only[iR,bC]at H;rw[Mm]at H;have S3:=H.eG (i:=3) rfl (λ_=>rfl) ag;have QQ:(aZ (ds++(2,m)::fT)).length=ds.length+(fT.length+1):=by simp[aZ]
     obtain⟨_,_,u3⟩:=S3.fM (g:=λr:bQ=>iv r.1) (g':=λr:bQ=>iv r.2) (λ_=>rfl) (i:=ds.length) aa;rw[gd,<-kO,<-si]at u3;dsimp only[fJ]at u3;by_cases CM:m=0
     ·subst CM;refine wk ?_;refine⟨sB,(p+n,rn,out++[13],⟨aU r7.a 1 r7.cap 2,r7.len-1,r7.cap-1⟩,ds++[(2,0)],fT),sB,⟨by dsimp only;omega,by dsimp only;exact qC,?_,by dsimp only;rw[aq];simp only[av,aI];omega,⟨by dsimp only;omega,by dsimp only;omega,λhne=>?_⟩,λr hr=>sj r (by simp[hr]),?_⟩,by dsimp only;omega⟩
      ·intro r hr;dsimp only at hr |-;rw[hX]at hr;cases hr;rw[hu2,Ml];exact nq out [13] _
      ·have hpos:=jF.2 hne;dsimp only at hpos |-;rw[MA J8 aa,aq,cQ,kO,si,show bw rc.a+ds.length*2+1*2=bw rc.a+(ds.length+1)*2 by omega]
      ·dsimp only;rw[bJ];exact H.sx
     ·refine wk ?_;refine⟨sB,(p+n,rn,out++[13],r7,ds,(2,m)::fT),sB,⟨by dsimp only;omega,by dsimp only;exact qC,?_,by dsimp only;rw[aq];simp only[av,aI];omega,⟨by simp only[av];omega,by dsimp only;omega,λ_=>hat⟩,λr hr=>?_,H.sx⟩,by dsimp only;omega⟩
      ·intro r hr;dsimp only at hr |-;rw[hX]at hr;cases hr;rw[hu2];exact nq out [13] _
      ·rcases bB.1 hr with rfl|hr
       ·exact⟨gU,by dsimp only;omega,by dsimp only;omega⟩
       ·exact sj r (by simp[hr])
  ·have qF:¬p<t.length:=hlt;have hu2:=hu [] (by rw[pW aa];rfl);cases rs' with
   | nil =>
    rw[show gP [] (dN [])=some []from rfl]at hu2;simp only[gA,cm]at hu2;rw[hu2];simp only[aI]at rZ;have H0:Rel W V [.row r6 21 1 (out.flatMap ew)] V w:=H.sx;clear H;obtain⟨V3,aw,H,hr⟩:=Rel.aT H0 (λ_=>rfl) ag;clear H0;refine wk ?_;exact⟨V3,r6,aw,H.sx,by rw[decide_eq_true aa],hr⟩
   | cons x fT =>
    obtain⟨k,m⟩:=x;obtain⟨gU,xQ,hm2⟩:=sj (k,m) ai;dsimp only at gU xQ hm2;obtain⟨m,rfl⟩:∃j,m=j+1:=⟨m-1,aa⟩
    rw[Un,show gP [] (k::dN ((k,m)::fT))=none from rfl,Option.map_none]at hu2;rw[hu2];simp only[av]at rZ;refine wk ?_;exact⟨V,r6,Sub.refl _,H.sx,by rw[decide_eq_false aa]⟩
end
theorem ND{x:Nat}(h:x<2147483648):bN .and .i64 (x:Int) 1023=((x%1024:Nat):Int):=by
 have e:bN .and .i64 (x:Int) 1023=IntKind.i64.wrap (((BitVec.ofInt 64 (x:Int))&&&(BitVec.ofInt 64 (1023:Int))).toNat:Int):=rfl;rw[e,BitVec.toNat_and,oz (w:=64) aa,show(BitVec.ofInt 64 (1023:Int)).toNat=2^10-1 by decide,Nat.and_two_pow_sub_one_eq_mod];exact Nl aa
theorem UA:((n:Int)/2^min (Int.toNat 10) IntKind.i64.bits)=((n/1024:Nat):Int):=rfl
structure WJ(W V:ae)(o:fx)(v:ao)(w':ae):Prop where
 ex:∃(V':ae) (r:Sl),Sub V V'/\Rel W V [] V' w'/\(match o with
  | none=>v=.tuple #[.slice none 0 0,.bool false]
  | some o=>v=.tuple #[r.v,.bool true]/\ay V' r o)
section
variable{w0 V0 V w:ae}{own:bU}
theorem zu{r:Sl}{xs:ad}(H:Rel w0 V0 (.row r 5 1 (xs.flatMap aE)::.ax b [r.v] 22::own) V w)(hl:xs.length<=1000000000){sp:Sl}{hs:List Sl}{ll:bg}(h1:aB cZ V sp hs)(h2:Pw ju V hs ll)(h3:ll.length<=1000000)(h4:ll.flatten.length<=1000000) :
  aC 206 [sp.v,.pointer (some ⟨b,0,none⟩)] w λ_ w'=>∃r':Sl,Rel w0 V0 (.row r' 5 1 ((xs++ll.flatten).flatMap aE)::.ax b [r'.v] 22::own) V w':=by
 refine eV Tryz.func206 7 [0,1] ?_;refine wk ?_;(first|refine aS (id:=0) ah mixed [2] [0,1,2,3,4] aj ?_);intro w aR;replace H:=Rel.ext H aR.ext;refine wk ?_;refine(nf H.data h1 h2 h3 aa).use ?_;rintro v w⟨r2,rfl,K⟩;(replace H:=Rel.call H K);simp only[aL,aA]at H;refine wk ?_;refine Rel.dD (s:=r) (x:=r2) (xs:=xs) (ys:=ll.flatten) H (i:=0) rfl aa ?_;clear H;intro rn w H;simp only[bC]at H;refine H.wg ?_;clear H;intro w H;exact⟨rn,H⟩
end
section
variable{V W:ae}
theorem VC(l:au)(c:Nat):List.flatMap bM (l++[c])=List.flatMap bM l++bM c:=by rw[bT,Gt]
theorem Hi(big:Bool)(l:au)(c:Nat):((l++[c]).flatMap fB).flatMap (cO big)=(l.flatMap fB).flatMap (cO big)++(fB c).flatMap (cO big):=by rw[bT,Gt,bT]
theorem Hj(big:Bool)(cs:au)(k:Nat):(((cs.take k).flatMap fB).flatMap (cO big)).length<=4*k:=by
 have:∀l:au,((l.flatMap fB).flatMap (cO big)).length<=4*l.length:=λl=>by
  induction l with
  | nil=>exact aK _
  | cons c l ih =>
   have hu:((fB c).flatMap (cO big)).length<=4:=by
    unfold fB;split<;>simp[uE]
   rw[bz,bT,aq,av];omega
 have:=this (cs.take k);rw[bb]at this;omega
theorem MV(cs:au)(k:Nat):((cs.take k).flatMap bM).length<=4*k:=by
 have:∀l:au,(l.flatMap bM).length<=4*l.length:=λl=>by
  induction l with
  | nil=>exact aK _
  | cons c l ih =>
   have:=qd c;rw[bz,aq,av,yY];omega
 have:=this (cs.take k);rw[bb]at this;omega
theorem Zx(hV:Sub V W){s:Sl}{cs:au}(hs:aB ew V s cs)(hl:cs.length<=10000000)(hc:∀c∈cs,dX c){e:Nat}(he:e<5):aC 128 [s.v,iv (e:Int)] W (WJ W V (lB e cs)):=by
 have H:=Rel.start hV;have hlen:=hs.len;have Ju:e=0\/e=1\/e=2\/e=3\/e=4:=aa;refine eV Tryz.func128 87 [0,1,4,5,6,7,8,10,11,15,16,20,28,29,30,31,41,48,56,66] ?_;rcases Ju with rfl|rfl|rfl|rfl|rfl
 ·refine wk ?_;refine H.nA ?_;clear H;intro w b6 H;replace H:=H.cb 5 1;have H0:Rel W V [.row ⟨none,0,0⟩ 5 1 (([]:ad).flatMap aE),.ax b6 [(⟨none,0,0⟩:Sl).v] 22] V w:=H;clear H;have H:=H0;clear H0;rw[show lB 0 cs=some ([]++cs.flatMap bM)from rfl];refine wk ?_;refine aY (S:=Nat×Sl) ah [0,1,6,7,8,15,16,20,28,29] (λk=>[(30,iv k.1)]) (λk w'=>k.1<=cs.length/\Rel W V [.row k.2 5 1 (([]++(cs.take k.1).flatMap bM).flatMap aE),.ax b6 [k.2.v] 22] V w') (λk _=>cs.length-k.1) (0,⟨none,0,0⟩) ?_;conv=>whnf
  refine⟨sB,⟨aa,by rw[q8,gB,cm];exact H⟩,?_⟩;clear H;rintro⟨k,r⟩w⟨hk,H⟩;dsimp only at hk H |-;have JU:=MV cs k;by_cases hlt:k<cs.length
  ·obtain⟨p0,c0⟩:=hs.aX (g:=rv) (λ_=>rfl) hlt;refine wk ?_;refine(BI (c:=cs[k]) H (hc _ (cj hlt)) (by rw[aq];simp only[av,aI];omega)).use ?_;clear H;rintro v w⟨rn,rfl,H⟩;refine H.wg ?_;clear H;intro w H;refine⟨sB,(k+1,rn),sB,⟨by dsimp only;omega,?_⟩,by dsimp only;omega⟩;dsimp only;rw[bZ hlt,VC,<-bJ];exact H.sx
  ·rw[bR aa]at H;obtain⟨V2,hV2,H,hr⟩:=Rel.aT H (λ_=>rfl) ag;refine wk ?_;exact⟨V2,r,hV2,H.sx,rfl,hr⟩
 ·refine wk ?_;refine H.nA ?_;clear H;intro w b6 H;replace H:=H.cb 5 1;refine wk ?_;refine(BI (c:=65279) (xs:=[]) H ag ai).use ?_;clear H;rintro v w⟨rm,rfl,H⟩;rw[aA,show bM 65279=nt by decide]at H;rw[show lB 1 cs=some (nt++cs.flatMap bM)from rfl];refine H.wg ?_;clear H;intro w H;refine aY (S:=Nat×Sl) ah [0,1,6,7,8,15,16,20,28,29] (λk=>[(30,iv k.1)]) (λk w'=>k.1<=cs.length/\Rel W V [.row k.2 5 1 ((nt++(cs.take k.1).flatMap bM).flatMap aE),.ax b6 [k.2.v] 22] V w') (λk _=>cs.length-k.1) (0,rm) ?_;conv=>whnf
  refine⟨sB,⟨aa,by rw[q8,gB,cm];exact H⟩,?_⟩;clear H;rintro⟨k,r⟩w⟨hk,H⟩;dsimp only at hk H |-;have JU:=MV cs k;by_cases hlt:k<cs.length
  ·obtain⟨p0,c0⟩:=hs.aX (g:=rv) (λ_=>rfl) hlt;refine wk ?_;refine(BI (c:=cs[k]) H (hc _ (cj hlt)) (by rw[aq];simp only[av,aI];omega)).use ?_;clear H;rintro v w⟨rn,rfl,H⟩;refine H.wg ?_;clear H;intro w H;refine⟨sB,(k+1,rn),sB,⟨by dsimp only;omega,?_⟩,by dsimp only;omega⟩;dsimp only;rw[bZ hlt,VC,<-bJ];exact H.sx
  ·rw[bR aa]at H;obtain⟨V2,hV2,H,hr⟩:=Rel.aT H (λ_=>rfl) ag;refine wk ?_;exact⟨V2,r,hV2,H.sx,rfl,hr⟩
 ·have em:cO true 65279=[254,255]:=ag;rw[show lB 2 cs=some ([254,255]++(cs.flatMap fB).flatMap (cO true))from rfl];refine wk ?_;refine H.nA ?_;clear H;intro w b6 H;replace H:=H.cb 5 1;refine wk ?_;refine(wE H.data (u:=65279) ag true).use ?_;rintro v w⟨V1,r1,hV1,K,rfl,hr1⟩;(replace H:=Rel.call H K);simp only[aA]at H;refine wk ?_;refine H.nA ?_;clear H;intro w bs H;obtain⟨V2,hV2,H,fN⟩:=H.bt;have hsl:aB cZ V2 ⟨some ⟨bs,0,none⟩,1,1⟩ [r1]:=⟨rfl,aK _,fN.cells⟩
  refine wk ?_;refine(zu (xs:=[]) H ai hsl (Pw.nil.snoc (hr1.up hV2)) (ll:=[cO true 65279]) ai (by simp[uE])).use ?_;clear H;rintro v w⟨rm,H⟩;rw[aA,show[cO true 65279].flatten=[254,255]by rw[em];rfl]at H;have ve:=hV1.trans hV2;refine wk ?_;refine aY (S:=Nat×Sl) ah [0,1,6,7,8,15,16,20,28,29] (λk=>[(30,iv k.1)]) (λk w'=>k.1<=cs.length/\∃V3,Sub V V3/\Rel W V [.row k.2 5 1 (([254,255]++((cs.take k.1).flatMap fB).flatMap (cO true)).flatMap aE),.ax b6 [k.2.v] 22] V3 w') (λk _=>cs.length-k.1) (0,rm) ?_;conv=>whnf
  refine⟨sB,⟨aa,V2,ve,by rw[q8,gB,gB,cm];exact H⟩,?_⟩;clear H;rintro⟨k,r⟩w⟨hk,V3,aw,H⟩;dsimp only at hk H |-;have JU:=Hj true cs k;by_cases hlt:k<cs.length
  ·obtain⟨p0,c0⟩:=(hs.up aw).aX (g:=rv) (λ_=>rfl) hlt;have hcc:=hc _ (cj hlt);have hcl:=C6 hcc;have hxl:([254,255]++((cs.take k).flatMap fB).flatMap (cO true)).length<=1000000000:=by rw[aq];simp only[av,aI];omega
   obtain⟨c,xF⟩:∃c,c=cs[k]:=⟨_,rfl⟩
   rw[<-xF]at c0 hcc hcl;obtain⟨z,hz⟩:∃z:Int,z=(c:Int):=⟨_,rfl⟩
   change _=some (Value.int .i32 (c:Int))at c0;rw[<-hz]at c0;by_cases h16:c<65536
   ·refine wk ?_;rw[hz];refine(wE H.data h16 true).use ?_;rintro v w⟨V4,r4,aG,K,rfl,hr4⟩;(replace H:=Rel.call H K);simp only[aA]at H;refine wk ?_;refine H.nA ?_;clear H;intro w wS H;obtain⟨V5,aQ,H,xE⟩:=H.bt;have x6:aB cZ V5 ⟨some ⟨wS,0,none⟩,1,1⟩ [r4]:=⟨rfl,aK _,xE.cells⟩
    refine wk ?_;refine(zu H hxl x6 (Pw.nil.snoc (hr4.up aQ)) (ll:=[cO true c]) ai (by simp[uE])).use ?_;clear H;rintro v w⟨rn,H⟩;have qt:[cO true c].flatten=(fB c).flatMap (cO true):=by unfold fB;rw[if_pos h16];rfl
    rw[qt,bJ,<-Hi,xF,<-bZ hlt]at H;refine wk ?_;exact⟨sB,(k+1,rn),sB,⟨by dsimp only;omega,V5,(aw.trans aG).trans aQ,H.sx⟩,by dsimp only;omega⟩
   ·obtain⟨m,hm⟩:∃m,m=c-65536:=⟨_,rfl⟩
    refine wk ?_;rw[show z-65536=(m:Int)by omega];refine wk ?_;rw[UA];refine wk ?_;rw[show(55296:Int)+((m/1024:Nat):Int)=((55296+m/1024:Nat):Int)by omega];refine(wE H.data aa true).use ?_;rintro v w⟨V4,r4,aG,K,rfl,hr4⟩;(replace H:=Rel.call H K);simp only[aA]at H;refine wk ?_;rw[ND aa];refine wk ?_;rw[show(56320:Int)+((m%1024:Nat):Int)=((56320+m%1024:Nat):Int)by omega];refine(wE H.data aa true).use ?_;rintro v w⟨V5,r5,aQ,K,rfl,ko⟩;(replace H:=Rel.call H K);simp only[aA]at H;refine wk ?_;refine H.nA ?_;clear H;intro w wS H;obtain⟨V6,cg,H,xE⟩:=H.bt;have x6:aB cZ V6 ⟨some ⟨wS,0,none⟩,2,2⟩ [r4,r5]:=⟨rfl,aK _,xE.cells⟩
    refine wk ?_;refine(zu H hxl x6 ((Pw.nil.snoc ((hr4.up aQ).up cg)).snoc (ko.up cg)) (ll:=[cO true (55296+m/1024),cO true (56320+m%1024)]) ai (by simp[uE])).use ?_;clear H;rintro v w⟨rn,H⟩;have qt:[cO true (55296+m/1024),cO true (56320+m%1024)].flatten=(fB c).flatMap (cO true):=by unfold fB;rw[if_neg h16,<-hm];rfl
    rw[qt,bJ,<-Hi,xF,<-bZ hlt]at H;refine wk ?_;exact⟨sB,(k+1,rn),sB,⟨by dsimp only;omega,V6,((aw.trans aG).trans aQ).trans cg,H.sx⟩,by dsimp only;omega⟩
  ·rw[bR aa]at H;obtain⟨V4,aG,H,hr⟩:=Rel.aT H (λ_=>rfl) ag;refine wk ?_;exact⟨V4,r,aw.trans aG,H.sx,rfl,hr⟩
 ·have em:cO false 65279=[255,254]:=ag;rw[show lB 3 cs=some ([255,254]++(cs.flatMap fB).flatMap (cO false))from rfl];refine wk ?_;refine H.nA ?_;clear H;intro w b6 H;replace H:=H.cb 5 1;refine wk ?_;refine(wE H.data (u:=65279) ag false).use ?_;rintro v w⟨V1,r1,hV1,K,rfl,hr1⟩;(replace H:=Rel.call H K);simp only[aA]at H;refine wk ?_;refine H.nA ?_;clear H;intro w bs H;obtain⟨V2,hV2,H,fN⟩:=H.bt;have hsl:aB cZ V2 ⟨some ⟨bs,0,none⟩,1,1⟩ [r1]:=⟨rfl,aK _,fN.cells⟩
  refine wk ?_;refine(zu (xs:=[]) H ai hsl (Pw.nil.snoc (hr1.up hV2)) (ll:=[cO false 65279]) ai (by simp[uE])).use ?_;clear H;rintro v w⟨rm,H⟩;rw[aA,show[cO false 65279].flatten=[255,254]by rw[em];rfl]at H;have ve:=hV1.trans hV2;refine wk ?_;refine aY (S:=Nat×Sl) ah [0,1,6,7,8,15,16,20,28,29] (λk=>[(30,iv k.1)]) (λk w'=>k.1<=cs.length/\∃V3,Sub V V3/\Rel W V [.row k.2 5 1 (([255,254]++((cs.take k.1).flatMap fB).flatMap (cO false)).flatMap aE),.ax b6 [k.2.v] 22] V3 w') (λk _=>cs.length-k.1) (0,rm) ?_;conv=>whnf
  refine⟨sB,⟨aa,V2,ve,by rw[q8,gB,gB,cm];exact H⟩,?_⟩;clear H;rintro⟨k,r⟩w⟨hk,V3,aw,H⟩;dsimp only at hk H |-;have JU:=Hj false cs k;by_cases hlt:k<cs.length
  ·obtain⟨p0,c0⟩:=(hs.up aw).aX (g:=rv) (λ_=>rfl) hlt;have hcc:=hc _ (cj hlt);have hcl:=C6 hcc;have hxl:([255,254]++((cs.take k).flatMap fB).flatMap (cO false)).length<=1000000000:=by rw[aq];simp only[av,aI];omega
   obtain⟨c,xF⟩:∃c,c=cs[k]:=⟨_,rfl⟩
   rw[<-xF]at c0 hcc hcl;obtain⟨z,hz⟩:∃z:Int,z=(c:Int):=⟨_,rfl⟩
   change _=some (Value.int .i32 (c:Int))at c0;rw[<-hz]at c0;by_cases h16:c<65536
   ·refine wk ?_;rw[hz];refine(wE H.data h16 false).use ?_;rintro v w⟨V4,r4,aG,K,rfl,hr4⟩;(replace H:=Rel.call H K);simp only[aA]at H;refine wk ?_;refine H.nA ?_;clear H;intro w wS H;obtain⟨V5,aQ,H,xE⟩:=H.bt;have x6:aB cZ V5 ⟨some ⟨wS,0,none⟩,1,1⟩ [r4]:=⟨rfl,aK _,xE.cells⟩
    refine wk ?_;refine(zu H hxl x6 (Pw.nil.snoc (hr4.up aQ)) (ll:=[cO false c]) ai (by simp[uE])).use ?_;clear H;rintro v w⟨rn,H⟩;have qt:[cO false c].flatten=(fB c).flatMap (cO false):=by unfold fB;rw[if_pos h16];rfl
    rw[qt,bJ,<-Hi,xF,<-bZ hlt]at H;refine wk ?_;exact⟨sB,(k+1,rn),sB,⟨by dsimp only;omega,V5,(aw.trans aG).trans aQ,H.sx⟩,by dsimp only;omega⟩
   ·obtain⟨m,hm⟩:∃m,m=c-65536:=⟨_,rfl⟩
    refine wk ?_;rw[show z-65536=(m:Int)by omega];refine wk ?_;rw[UA];refine wk ?_;rw[show(55296:Int)+((m/1024:Nat):Int)=((55296+m/1024:Nat):Int)by omega];refine(wE H.data aa false).use ?_;rintro v w⟨V4,r4,aG,K,rfl,hr4⟩;(replace H:=Rel.call H K);simp only[aA]at H;refine wk ?_;rw[ND aa];refine wk ?_;rw[show(56320:Int)+((m%1024:Nat):Int)=((56320+m%1024:Nat):Int)by omega];refine(wE H.data aa false).use ?_;rintro v w⟨V5,r5,aQ,K,rfl,ko⟩;(replace H:=Rel.call H K);simp only[aA]at H;refine wk ?_;refine H.nA ?_;clear H;intro w wS H;obtain⟨V6,cg,H,xE⟩:=H.bt;have x6:aB cZ V6 ⟨some ⟨wS,0,none⟩,2,2⟩ [r4,r5]:=⟨rfl,aK _,xE.cells⟩
    refine wk ?_;refine(zu H hxl x6 ((Pw.nil.snoc ((hr4.up aQ).up cg)).snoc (ko.up cg)) (ll:=[cO false (55296+m/1024),cO false (56320+m%1024)]) ai (by simp[uE])).use ?_;clear H;rintro v w⟨rn,H⟩;have qt:[cO false (55296+m/1024),cO false (56320+m%1024)].flatten=(fB c).flatMap (cO false):=by unfold fB;rw[if_neg h16,<-hm];rfl
    rw[qt,bJ,<-Hi,xF,<-bZ hlt]at H;refine wk ?_;exact⟨sB,(k+1,rn),sB,⟨by dsimp only;omega,V6,((aw.trans aG).trans aQ).trans cg,H.sx⟩,by dsimp only;omega⟩
  ·rw[bR aa]at H;obtain⟨V4,aG,H,hr⟩:=Rel.aT H (λ_=>rfl) ag;refine wk ?_;exact⟨V4,r,aw.trans aG,H.sx,rfl,hr⟩
 ·rw[show lB 4 cs=if ∀c∈cs,c<256 then some (cs.map UInt8.ofNat)else none from rfl];refine wk ?_;refine H.nA ?_;clear H;intro w b6 H;replace H:=H.cb 5 1;refine wk ?_;refine aY (S:=Nat×Sl) ah [0,1,6,7,8,15,16,20,28,29] (λk=>[(30,iv k.1)]) (λk w'=>k.1<=cs.length/\(∀c∈cs.take k.1,c<256)/\Rel W V [.row k.2 5 1 (((cs.take k.1).map UInt8.ofNat).flatMap aE),.ax b6 [k.2.v] 22] V w') (λk _=>cs.length-k.1) (0,⟨none,0,0⟩) ?_;conv=>whnf
  refine⟨sB,⟨aa,ai,H⟩,?_⟩;clear H;rintro⟨k,r⟩w⟨hk,ha,H⟩;dsimp only at hk ha H |-;by_cases hlt:k<cs.length
  ·obtain⟨p0,c0⟩:=hs.aX (g:=rv) (λ_=>rfl) hlt;have hcc:=C6 (hc _ (cj hlt));have nj:((cs.take k).map UInt8.ofNat).length=k:=by rw[bu,bb];omega
   by_cases aiY:255<cs[k]
   ·rw[if_neg (λh=>by have:=h _ (cj hlt);omega)];refine wk ?_;exact⟨V,⟨none,0,0⟩,Sub.refl _,H.sx,rfl⟩
   ·refine wk ?_;refine H.nA ?_;clear H;intro w b54 H;rw[Ea (show cs[k]<256 by omega)]at H;replace H:=H.bA (c':=aE (UInt8.ofNat cs[k])) (by simp only[aE,bv,cH (show cs[k]<256 by omega)]);refine wk ?_;refine Rel.dC (f:=aE) (l:=(cs.take k).map UInt8.ofNat) (x:=UInt8.ofNat cs[k]) ah rfl rfl rfl rfl rfl ag (λ_=>rfl) (bj.1 rfl) H (by show(((cs.take k).map UInt8.ofNat).length+1)*1<=_;omega) aa ?_;clear H;intro rn w H;refine H.wg ?_;clear H;intro w H;refine⟨sB,(k+1,rn),sB,⟨by dsimp only;omega,λc hc2=>?_,?_⟩,by dsimp only;omega⟩
    ·dsimp only at hc2;rw[bZ hlt]at hc2;rcases cq.1 hc2 with h|h
     ·exact ha c h
     ·rw[List.mem_singleton.1 h];omega
    ·dsimp only;rw[bZ hlt,eZ];exact H.sx
  ·rw[bR aa]at H ha;rw[if_pos ha];obtain⟨V2,hV2,H,hr⟩:=Rel.aT H (λ_=>rfl) ag;refine wk ?_;exact⟨V2,r,hV2,H.sx,rfl,hr⟩
end
theorem UW{V V':ae}(h:Lib.Utf8Tabs 0 1 V)(k:Sub V V'):Lib.Utf8Tabs 0 1 V' :=
 ⟨λc hc=>k.cell (h.1 c hc),λi hi=>⟨k.cell (h.2 i hi).1,k.cell (h.2 i hi).2⟩⟩
theorem M3:∀ {l ks cs:au},gP l ks=some cs->(∀c∈cs,c∈l\/c=10\/c=13)/\cs.length<=2*l.length
 | [],[],cs,h=>by cases h;simp
 | [],_::_,cs,h=>by cases h
 | c::r,ks,cs,h=>by
  by_cases lD:c=10
  ·subst lD;cases ks with
   | nil=>rw[VL]at h;cases h
   | cons k ks =>
    rw[VK]at h;cases hr:gP r ks with
    | none=>rw[hr]at h;cases h
    | some ds =>
     rw[hr]at h;cases h;obtain⟨a1,a2⟩:=M3 hr;have he:(B6 k).length<=2/\∀c∈B6 k,c=10\/c=13:=by
      unfold B6;split
      ·simp
      ·split<;>simp
     refine⟨λx hx=>?_,by rw[aq,av];omega⟩;rcases cq.1 hx with hx|hx
     ·exact .inr (he.2 x hx)
     ·rcases a1 x hx with h|h
      ·exact .inl (by simp[h])
      ·exact .inr h
  ·rw[VM lD]at h;cases hr:gP r ks with
   | none=>rw[hr]at h;cases h
   | some ds =>
    rw[hr]at h;cases h;obtain⟨a1,a2⟩:=M3 hr;refine⟨λx hx=>?_,by simp only[av];omega⟩;rcases bB.1 hx with rfl|hx
    ·exact .inl ai
    ·rcases a1 x hx with h|h
     ·exact .inl (by simp[h])
     ·exact .inr h
theorem Zi{cs:au}{o:ad}(h:lB e cs=some o):o.length<=4*cs.length+3:=by
 have h8:=MV cs cs.length;have ht:=Hj true cs cs.length;have hf:=Hj false cs cs.length;rw[List.take_length]at h8 ht hf;unfold lB at h;split at h
 ·cases h;omega
 ·split at h
  ·cases h;rw[aq];simp only[av,aI];omega
  ·split at h
   ·cases h;rw[aq];simp only[av,aI];omega
   ·split at h
    ·cases h;rw[aq];simp only[av,aI];omega
    ·split at h
     ·cases h;rw[bu];omega
     ·cases h
theorem ahN{b:ad}{rs:List dA}(h:kE b=some (e,rs))(l:au):(if iu e (dN rs)=true then some l else gP l (dN rs))=yX b rs l/\(iu e (dN rs)=true->rs=[]):=by
 obtain⟨_,_,_,_,hiff⟩:=Vx h;unfold yX;by_cases hb:b=[]
 ·rw[if_pos (hiff.1 hb),if_pos hb];refine⟨rfl,λ_=>?_⟩;unfold kE at h;rw[if_pos hb]at h;cases h;rfl
 ·rw[if_neg (λq=>hb (hiff.2 q)),if_neg hb];exact⟨rfl,λq=>absurd (hiff.2 q) hb⟩
section
variable{V W:ae}
theorem PV(hV:Sub V W)(hT:Lib.Utf8Tabs 0 1 V){h:VH}{v:ar}(hv:bV V h v)(hB:VB 1048576 v){s:Sl}{b:ad}(hs:ay V s b)(hl:b.length<=100000000):aC 56 [fb h,s.v] W (mT W V (ct v (sX v).isSome (nO v b))):=by
 have H:=Rel.start hV;have hv0:=hv;have ek:=hv.kind;have hby:=hv.bytes;have hbl:=hB.bytes;obtain⟨k,n,bs,ss,pl⟩:=h;dsimp only at ek hby;change aC 56 [.agg [iv k,iv n,bs.v,ss.v,pl.v].toArray,s.v] W _;refine eV Tryz.func56 86 [0,1,2,4,5,6,7,8,9,10,11,12,13,14,19,23,38,48,58,82] ?_;refine wk ?_;refine H.nA ?_;clear H;intro w b2 H;refine wk ?_;refine H.nA ?_;clear H;intro w b5 H;refine wk ?_;refine(qe H.data hv0 hB).use ?_;rintro q w⟨rfl,K⟩;(replace H:=H.az K);refine wk ?_;refine H.nA ?_;clear H;intro w b6 H;by_cases bP:(bI v).1=0;rotate_left
 ·have e:ct v (sX v).isSome (nO v b)=([],bI v):=by unfold ct;rw[if_pos bP]
  rw[e];refine H.wg ?_;clear H;intro w H;(first|refine aS (id:=3) ah mixed [] [0,1,2] aj ?_|refine aS (id:=9) ah mixed [] [0,1,2] aj ?_|refine aS (id:=12) ah mixed [] [0,1,2] aj ?_|refine aS (id:=15) ah mixed [] [0,1,2] aj ?_|refine aS (id:=18) ah mixed [] [0,1,2] aj ?_);intro w aR;replace H:=Rel.ext H aR.ext;refine H.wg ?_;clear H;intro w H;exact⟨V,⟨none,0,0⟩,Sub.refl _,H.sx,rfl,aB.nil _ _⟩
 have qL:=oQ bP;rw[qL];by_cases iM:k=2;rotate_left
 ·have gg:sX v=none:=by unfold sX;rw[if_neg (by rw[<-ek];exact iM)]
  rw[gg];have e:ct v (none:fx).isSome (nO v b)=([],13,0):=by unfold ct;rw[if_neg (λh=>h bP)];rfl
  rw[e];refine H.wg ?_;clear H;intro w H;refine(ER H.data 13 0).use ?_;rintro q w⟨rfl,K⟩;(replace H:=H.az K);refine H.wg ?_;clear H;intro w H;exact⟨V,⟨none,0,0⟩,Sub.refl _,H.sx,rfl,aB.nil _ _⟩
 have gg:sX v=some v.bytes:=by unfold sX;rw[if_pos (by rw[<-ek];exact iM)]
 have sr:=VT (Bk bP).1 (by rw[<-ek];exact iM);have bW:nO v b=match uD v.bytes b with
   | none=>none
   | some o=>open Classical in if o.length<=1000/\iU o=some (v,b)then some o else none:=by
  unfold nO;rw[gg];rfl
 rw[gg];have eS:nO v b=none->ct v (some v.bytes).isSome (nO v b)=([],6, -2):=λh=>by
  rw[h];unfold ct;rw[if_neg (λh=>h bP)];rfl
 refine H.wg ?_;clear H;intro w H;refine(ER H.data 6 (-2)).use ?_;rintro q w⟨rfl,K⟩;(replace H:=H.az K);refine wk ?_;refine H.nA ?_;clear H;intro w b7 H;refine H.wg ?_;clear H;intro w H;refine(afr H.data hs aa).use ?_;rintro q w⟨V2,e,r,hV2,K,hres⟩;(replace H:=H.az K);cases hr:kE b with
 | none =>
  rw[hr]at hres;obtain rfl:=hres;have e:=eS (by rw[bW];unfold uD;rw[hr]);refine wk ?_;refine H.nA ?_;clear H;intro w b8 H;rw[e];refine H.wg ?_;clear H;intro w H;(first|refine aS (id:=3) ah mixed [] [0,1,2] aj ?_|refine aS (id:=9) ah mixed [] [0,1,2] aj ?_|refine aS (id:=12) ah mixed [] [0,1,2] aj ?_|refine aS (id:=15) ah mixed [] [0,1,2] aj ?_|refine aS (id:=18) ah mixed [] [0,1,2] aj ?_);intro w aR;replace H:=Rel.ext H aR.ext;refine H.wg ?_;clear H;intro w H;exact⟨V2,⟨none,0,0⟩,hV2,H.sx,rfl,aB.nil _ _⟩
 | some x =>
  obtain⟨e',rs⟩:=x;rw[hr]at hres;obtain⟨rfl,rfl,fw⟩:=hres;obtain⟨h5,ho,Aq,_,_⟩:=Vx hr;have hos:=Bb ho;have hpos:=GS ho;refine wk ?_;refine H.nA ?_;clear H;intro w b8 H;refine H.wg ?_;clear H;intro w H;refine(VY H.data (UW hT hV2) (hby.up hV2) aa).use ?_;rintro q w⟨rfl,K⟩;(replace H:=H.az K);cases hch:chars v.bytes with
  | none =>
   have e:=eS (by rw[bW];unfold uD;rw[hr];simp only;rw[hch]);rw[e];refine wk ?_;(first|refine aS (id:=3) ah mixed [] [0,1,2] aj ?_|refine aS (id:=9) ah mixed [] [0,1,2] aj ?_|refine aS (id:=12) ah mixed [] [0,1,2] aj ?_|refine aS (id:=15) ah mixed [] [0,1,2] aj ?_|refine aS (id:=18) ah mixed [] [0,1,2] aj ?_);intro w aR;replace H:=Rel.ext H aR.ext;refine H.wg ?_;clear H;intro w H;exact⟨V2,⟨none,0,0⟩,hV2,H.sx,rfl,aB.nil _ _⟩
  | some l =>
   obtain⟨hcl,hcf⟩:=Ia.1 hch;have hll:l.length<=v.bytes.length:=by rw[<-hcf];exact PO
   obtain⟨hcs,htr⟩:=ahN hr l;refine wk ?_;refine(abV H.data (hby.up hV2) hbl hch fw aa (λr hr=>⟨(hos.2 r hr).1,hpos r hr,by have:=(hos.2 r hr).2;omega⟩) htr).use ?_;rw[hcs];rintro q w⟨V3,r3,aw,K,hj⟩;(replace H:=H.az K);cases hcc:yX b rs l with
   | none =>
    rw[hcc]at hj;obtain rfl:=hj;have e:=eS (by rw[bW];unfold uD;rw[hr];simp only;rw[hch];simp only;rw[hcc]);rw[e];refine wk ?_;(first|refine aS (id:=3) ah mixed [] [0,1,2] aj ?_|refine aS (id:=9) ah mixed [] [0,1,2] aj ?_|refine aS (id:=12) ah mixed [] [0,1,2] aj ?_|refine aS (id:=15) ah mixed [] [0,1,2] aj ?_|refine aS (id:=18) ah mixed [] [0,1,2] aj ?_);intro w aR;replace H:=Rel.ext H aR.ext;refine H.wg ?_;clear H;intro w H;exact⟨V3,⟨none,0,0⟩,hV2.trans aw,H.sx,rfl,aB.nil _ _⟩
   | some cs =>
    rw[hcc]at hj;obtain⟨rfl,cL⟩:=hj;have tH:(∀c∈cs,dX c)/\cs.length<=2*l.length:=by
     unfold yX at hcc;split at hcc
     ·cases hcc;exact⟨hcl,aa⟩
     ·obtain⟨a1,a2⟩:=M3 hcc;refine⟨λc hc=>?_,a2⟩;rcases a1 c hc with h|h|h
      ·exact hcl c h
      ·rw[h];unfold dX;omega
      ·rw[h];unfold dX;omega
    refine wk ?_;refine(Zx H.data cL aa tH.1 h5).use ?_;rintro q w⟨V4,r4,aG,K,he⟩;(replace H:=H.az K);have hout:uD v.bytes b=lB e' cs:=by unfold uD;rw[hr];simp only;rw[hch];simp only;rw[hcc]
    cases hen:lB e' cs with
    | none =>
     rw[hen]at he;obtain rfl:=he;have e:=eS (by rw[bW,hout,hen]);rw[e];refine wk ?_;(first|refine aS (id:=3) ah mixed [] [0,1,2] aj ?_|refine aS (id:=9) ah mixed [] [0,1,2] aj ?_|refine aS (id:=12) ah mixed [] [0,1,2] aj ?_|refine aS (id:=15) ah mixed [] [0,1,2] aj ?_|refine aS (id:=18) ah mixed [] [0,1,2] aj ?_);intro w aR;replace H:=Rel.ext H aR.ext;refine H.wg ?_;clear H;intro w H;exact⟨V4,⟨none,0,0⟩,(hV2.trans aw).trans aG,H.sx,rfl,aB.nil _ _⟩
    | some O =>
     rw[hen]at he;obtain⟨rfl,hO⟩:=he;have rY:=Zi hen;rw[hout,hen]at bW;simp only at bW;refine wk ?_;refine(Vi H.data (UW hT ((hV2.trans aw).trans aG)) hO aa).use ?_;rintro q w⟨V5,hh,rr,aQ,K,rfl,fF,Fv⟩;(replace H:=H.az K);have cU:=((hV2.trans aw).trans aG).trans aQ;by_cases iz:1000<O.length
     ·have et:br (iU O) O.length=⟨zeroV,[],3, -1⟩:=by unfold br;rw[if_pos iz]
      rw[et];have e:=eS (by rw[bW,if_neg];intro h;omega);refine wk ?_;refine H.nA ?_;clear H;intro w uO H;refine wk ?_;refine H.nA ?_;clear H;intro w mf H;rw[e];refine H.wg ?_;clear H;intro _ w H;(first|refine aS (id:=3) ah mixed [] [0,1,2] aj ?_|refine aS (id:=9) ah mixed [] [0,1,2] aj ?_|refine aS (id:=12) ah mixed [] [0,1,2] aj ?_|refine aS (id:=15) ah mixed [] [0,1,2] aj ?_|refine aS (id:=18) ah mixed [] [0,1,2] aj ?_);intro w aR;replace H:=Rel.ext H aR.ext;refine H.wg ?_;clear H;intro w H;exact⟨V5,⟨none,0,0⟩,cU,H.sx,rfl,aB.nil _ _⟩
     cases hto:iU O with
     | none =>
      rw[hto]at fF Fv;have et:br none O.length=⟨zeroV,[],21, -1⟩:=by unfold br;rw[if_neg iz]
      rw[et];have e:=eS (by rw[bW,if_neg];intro h;rw[hto]at h;cases h.2);refine wk ?_;refine H.nA ?_;clear H;intro w uO H;refine wk ?_;refine H.nA ?_;clear H;intro w mf H;rw[e];refine H.wg ?_;clear H;intro _ w H;(first|refine aS (id:=3) ah mixed [] [0,1,2] aj ?_|refine aS (id:=9) ah mixed [] [0,1,2] aj ?_|refine aS (id:=12) ah mixed [] [0,1,2] aj ?_|refine aS (id:=15) ah mixed [] [0,1,2] aj ?_|refine aS (id:=18) ah mixed [] [0,1,2] aj ?_);intro w aR;replace H:=Rel.ext H aR.ext;refine H.wg ?_;clear H;intro w H;exact⟨V5,⟨none,0,0⟩,cU,H.sx,rfl,aB.nil _ _⟩
     | some y =>
      obtain⟨wv,wr⟩:=y;have et:br (some (wv,wr)) O.length=⟨wv,wr,0,0⟩:=by unfold br;rw[if_neg iz]
      rw[hto,et]at fF Fv;rw[et];dsimp only at fF Fv |-;obtain⟨ie,e2,T⟩:=MT hto;have x8:=T.val;have hcond:(O.length<=1000/\iU O=some (v,b))↔(wv.bytes=v.bytes/\wr=b):=by
       rw[hto];constructor
       ·rintro⟨_,h⟩;simp only[Option.some.injEq,Prod.mk.injEq]at h;exact⟨by rw[h.1],h.2⟩
       ·rintro⟨e1,e2⟩;refine⟨aa,?_⟩;rw[e2,sr,<-e1,x8]
      have Ro:=fF.bytes;obtain⟨hk,hn,fN,om,pB⟩:=hh;dsimp only at Ro;refine wk ?_;refine H.nA ?_;clear H;intro w uO H;refine wk ?_;refine H.nA ?_;clear H;intro w mf H;refine H.wg ?_;clear H;intro _ w H;refine(qv H.data Ro (hby.up cU)).use ?_;rintro q w⟨rfl,K⟩;(replace H:=Rel.call H K);simp only[aA]at H;by_cases hc1:wv.bytes=v.bytes;rotate_left
      ·rw[decide_eq_false hc1];have e:=eS (by rw[bW,if_neg];intro h;exact hc1 (hcond.1 h).1);rw[e];refine wk ?_;(first|refine aS (id:=3) ah mixed [] [0,1,2] aj ?_|refine aS (id:=9) ah mixed [] [0,1,2] aj ?_|refine aS (id:=12) ah mixed [] [0,1,2] aj ?_|refine aS (id:=15) ah mixed [] [0,1,2] aj ?_|refine aS (id:=18) ah mixed [] [0,1,2] aj ?_);intro w aR;replace H:=Rel.ext H aR.ext;refine H.wg ?_;clear H;intro w H;exact⟨V5,⟨none,0,0⟩,cU,H.sx,rfl,aB.nil _ _⟩
      rw[decide_eq_true hc1];refine wk ?_;refine(qv H.data Fv (hs.up cU)).use ?_;rintro q w⟨rfl,K⟩;(replace H:=Rel.call H K);simp only[aA]at H;by_cases hc2:wr=b;rotate_left
      ·rw[decide_eq_false hc2];have e:=eS (by rw[bW,if_neg];intro h;exact hc2 (hcond.1 h).2);rw[e];refine wk ?_;(first|refine aS (id:=3) ah mixed [] [0,1,2] aj ?_|refine aS (id:=9) ah mixed [] [0,1,2] aj ?_|refine aS (id:=12) ah mixed [] [0,1,2] aj ?_|refine aS (id:=15) ah mixed [] [0,1,2] aj ?_|refine aS (id:=18) ah mixed [] [0,1,2] aj ?_);intro w aR;replace H:=Rel.ext H aR.ext;refine H.wg ?_;clear H;intro w H;exact⟨V5,⟨none,0,0⟩,cU,H.sx,rfl,aB.nil _ _⟩
      rw[decide_eq_true hc2];have e:ct v (some v.bytes).isSome (nO v b)=(O,0,0):=by
       rw[bW,if_pos (hcond.2 ⟨hc1,hc2⟩)];unfold ct;rw[if_neg (λh=>h bP)];rfl
      rw[e];refine H.wg ?_;clear H;intro w H;exact⟨V5,r4,cU,H.sx,rfl,hO.up aQ⟩
end
section
variable{V W:ae}
theorem yq(u:ao):Bv Tryz.prog 73 u "scriptorium/convert.from" 400 u:=λw=>by kernel_rfl
theorem u6(hV:Sub V W)(hT:nT V){z:Int}(hz:0<=z/\z<7){h:VH}{s:Sl}{l:ad}(hl:l.length<=1000)(hk:(iJ l).1=z){t:TypeId}{x:ao}{f:FuncId}(h1:tq z.toNat=.iface t x)(h2:Bv Tryz.prog t x "scriptorium/convert.from" f x)
  (h3:∀ {W:ae},Sub V W->oD f [x,fb h,s.v].toArray W (mT W V (l,0,0))):aC 13 [Lc z h s] W (mT W V (l,0,0)):=by
 have H:=Rel.start hV;refine eV Tryz.func13 50 [0,1,2,3,4,5,6,7,8,9,17,30,46] ?_;refine wk ?_;refine H.nA ?_;clear H;intro w b1 H;refine wk ?_;refine H.nA ?_;clear H;intro w b3 H;refine wk ?_;refine(PC H.data hz).use ?_;rintro q w⟨rfl,K⟩;(replace H:=H.az K);rw[h1];refine wk ?_;refine⟨_,_,h2,(h3 H.data).use ?_⟩;rintro q w⟨V2,r,hV2,K,rfl,hr⟩;(replace H:=H.az K);dsimp only at hr |-;refine wk ?_;refine H.nA ?_;clear H;intro w b7 H;refine H.wg ?_;clear H;intro w H;refine(Hd H.data (hT.up hV2) hr aa).use ?_;have e:rP l=(iJ l,0,0):=if_neg aa;rw[e];rintro q w⟨V3,h3,r3,aw,K,rfl,hv3,cL⟩;(replace H:=H.az K);dsimp only;rw[hk];refine wk ?_;refine H.nA ?_;clear H;intro w b8 H;refine wk ?_;refine H.nA ?_;clear H;intro w b9 H;refine H.wg ?_;clear H;intro _ _ w H;exact⟨V3,r,hV2.trans aw,H.sx,rfl,hr.up aw⟩
end
theorem It:iJ [65,10]=(1,jL [65,10],[]):=by
 have h0:fU [65,10]=none:=aj;have h1:gk [65,10]=none:=aj;have h2:gL [65,10]=none:=aj;have h3:gE [65,10]=none:=aj;have h4:gO [65,10]=none:=aj;have h5:iU [65,10]=some (jL [65,10],[]):=aj;unfold iJ;rw[h0,h1,h2,h3,h4,h5]
theorem YT:iJ [0]=(0,jL [0],[]):=by
 have h0:fU [0]=none:=aj;have h1:gk [0]=none:=aj;have h2:gL [0]=none:=aj;have h3:gE [0]=none:=aj;have h4:gO [0]=none:=aj;have h5:iU [0]=none:=aj;unfold iJ;rw[h0,h1,h2,h3,h4,h5]
section
variable{V W:ae}
theorem ZF(hV:Sub V W)(hT:nT V):aC 8 [] W λq w'=>q=.bool true/\∃V',Sub V V'/\Rel W V [] V' w':=by
 have H:=Rel.start hV;refine eV Tryz.func8 65 [0,1,2,3,4,5,6] ?_;refine wk ?_;refine H.nA ?_;clear H;intro w b8 H;replace H:=H.bA (c':=([65,10]:ad).flatMap aE) rfl;refine wk ?_;refine Rel.uW (b:=b8) (l:=[65,10]) rfl rfl H rfl ?_;clear H;intro V1 w hV1 hx H;refine wk ?_;refine(Hd H.data (hT.up hV1) hx ag).use ?_;rintro q w⟨V2,h,r,hV2,K,rfl,hv,hr⟩;(replace H:=H.az K);have e:rP [65,10]=((1,jL [65,10],[]),0,0):=by unfold rP;rw[if_neg ag,It]
 rw[e]at hv hr |-;have hvb:=hv.bytes;dsimp only at hv hr hvb |-;refine wk ?_;refine H.nA ?_;clear H;intro w b1 H;refine wk ?_;refine H.nA ?_;clear H;intro w b2 H;refine H.wh ?_;clear H;intro _ w H;refine H.nA ?_;clear H;intro w mf H;replace H:=H.bA (c':=([0]:ad).flatMap aE) rfl;obtain⟨V3,aw,H,tE⟩:=H.bt;have hx0:ay V3 ⟨some ⟨mf,0,none⟩,1,1⟩ [0]:=⟨rfl,aK _,tE.cells⟩
 have nh:=hV1.trans (hV2.trans aw);refine wk ?_;refine(Hd H.data (hT.up nh) hx0 ag).use ?_;rintro q w⟨V4,h4,r4,aG,K,rfl,Kk,hr4⟩;(replace H:=H.az K);have e:rP [0]=((0,jL [0],[]),0,0):=by unfold rP;rw[if_neg ag,YT]
 rw[e]at Kk hr4 |-;have Rl:=Kk.bytes;dsimp only at Kk hr4 Rl |-;refine wk ?_;refine H.nA ?_;clear H;intro w b3 H;refine wk ?_;refine H.nA ?_;clear H;intro w b4 H;refine H.wg ?_;clear H;intro _ w H;have oc:=aw.trans aG;have Jl:=nh.trans aG;obtain⟨hok,hB,hrl⟩:=YW (l:=[65,10]) ag;rw[It]at hok hB hrl;have bW:nO (jL [65,10]) []=some [65,10]:=Vy ag aj;refine(u6 H.data (hT.up Jl) ag (l:=[65,10]) ag (by rw[It]) rfl (yq _) λh9=>yw h9 λh9=>?_).use ?_
 ·have lD:=PV h9 (hT.up Jl).tb (hv.up oc) hB (hr.up oc) ag;have e:ct (jL [65,10]) (sX (jL [65,10])).isSome (nO (jL [65,10]) [])=([65,10],0,0):=by
   rw[bW];unfold ct;rw[Nf ag];rfl
  exact e▸lD
 rintro q w⟨V5,r5,aQ,K,rfl,ko⟩;(replace H:=H.az K);dsimp only at ko |-;refine wk ?_;refine H.nA ?_;clear H;intro w b6 H;refine H.wg ?_;clear H;intro w H;have aas:=oc.trans aQ;refine⟨[65,10],hvb.len,fc _▸((hvb.up aas).up H.data).cells,?_⟩;refine wk ?_;refine H.nA ?_;clear H;intro w XM H;replace H:=H.bA (c':=([0]:ad).flatMap aE) rfl;obtain⟨V6,cg,H,aaB⟩:=H.bt;have abB:ay V6 ⟨some ⟨XM,0,none⟩,1,1⟩ [0]:=⟨rfl,aK _,aaB.cells⟩
 refine wk ?_;refine(NP H.data (Rl.up (aQ.trans cg)) abB).use ?_;rintro q w⟨rfl,K⟩;(replace H:=H.az K);rw[decide_eq_true rfl];refine wk ?_;refine⟨[65,10],ko.len,fc _▸((ko.up cg).up H.data).cells,?_⟩;refine wk ?_;exact(H.sx:Rel W V [] V6 w).less Jl (aQ.trans cg)
end
section
variable{V W:ae}
structure Xa(W V:ae)(res:Option (Nat×Nat×ad))(q:ao)(w':ae):Prop where
 ex:∃(V':ae) (r:Sl),Sub V V'/\Rel W V [] V' w'/\(match res with
  | none=>q=.tuple #[iv 0,iv 0,.slice none 0 0,.bool false]
  | some (a,b,x)=>q=.tuple #[iv a,iv b,r.v,.bool true]/\ay V' r x)
theorem SZ(h:∀r c s,v.parts=[r,c,s]->¬zn v r c s):lP v=none:=by
 unfold lP;split
 ·rename_i r c s hp;rw[if_neg (h r c s hp)]
 ·rfl
theorem three(h:v.parts.length=3):∃r c s,v.parts=[r,c,s]:=by
 match hp:v.parts,h with
 | [r,c,s],_=>exact⟨r,c,s,rfl⟩
theorem UC(hV:Sub V W)(x:VH):aC 215 [fb x] W λq w'=>q=.bool (decide (x.k=1/\1<=x.n/\x.n<=64))/\Rel W V [] V w':=by
 have H:=Rel.start hV;obtain⟨k,n,bs,ss,pl⟩:=x;change aC 215 [.agg [iv k,iv n,bs.v,ss.v,pl.v].toArray] W _;refine eV Tryz.func215 16 [0,1,2] ?_;refine wk ?_;refine H.nA ?_;clear H;intro w b3 H;by_cases h1:k=1;rotate_left
 ·rw[decide_eq_false (λh=>h1 h.1)];refine wk ?_;exact H.sx
 by_cases h2:1<=n;rotate_left
 ·rw[decide_eq_false (λh=>h2 h.2.1)];refine wk ?_;exact H.sx
 by_cases h3:n<=64;rotate_left
 ·rw[decide_eq_false (λh=>h3 h.2.2)];refine wk ?_;rw[decide_eq_false h3];exact⟨rfl,H.sx⟩
 rw[decide_eq_true (⟨h1,h2,h3⟩:k=1/\1<=n/\n<=64)];refine wk ?_;rw[decide_eq_true h3];exact⟨rfl,H.sx⟩
theorem agy(hV:Sub V W){h:VH}{v:ar}(hv:bV V h v)(hB:VB 1048576 v)(hval:(bI v).1=0):aC 135 [fb h] W (Xa W V (lP v)):=by
 have H:=Rel.start hV;have e1:=hv.kind;have hns:=hv.names;have hpl:=hv.kt;have lH:=hB.names;have hv0:=hv;obtain⟨k,n,bs,ss,pl⟩:=h;dsimp only at e1 hns hpl;subst e1;change aC 135 [.agg [iv v.kind,iv n,bs.v,ss.v,pl.v].toArray] W _;refine eV Tryz.func135 65 [0,1,2,3,4,5,6,7,8,9,19,58] ?_;refine wk ?_;refine H.nA ?_;clear H;intro w b1 H;by_cases k4:v.kind=4;rotate_left
 ·rw[SZ λr c s _ h=>k4 h.kind];refine wk ?_;exact⟨V,⟨none,0,0⟩,Sub.refl _,Rel.back H.sx,rfl⟩
 obtain⟨z1,z2,z3⟩:=VW hval k4;rw[k4]at H;refine wk ?_;refine H.nA ?_;clear H;intro w BJ H;have H0:Rel W V [.ax BJ [str wi,str v8,str wa] 9,.ax b1 [iv 4,iv n,bs.v,ss.v,pl.v] 27] V w:=H;obtain⟨V2,hV2,H,aaz⟩:=H0.bt;clear H0;have vp:aB p7 V2 ⟨some ⟨BJ,0,none⟩,3,3⟩ [wi,v8,wa]:=⟨rfl,aK _,aaz.cells⟩
 refine wk ?_;refine(IM H.data (hns.up hV2) vp aa).use ?_;rintro q w⟨rfl,K⟩;(replace H:=H.az K);by_cases hnn:v.names=[wi,v8,wa]
 rotate_left
 ·rw[SZ λr c s _ h=>hnn h.names,decide_eq_false hnn];refine wk ?_;exact⟨V,⟨none,0,0⟩,Sub.refl _,Rel.back H.sx,rfl⟩
 rw[decide_eq_true hnn];have h3:v.parts.length=3:=by rw[<-z1,hnn];rfl
 obtain⟨r,c,s,hps⟩:=three h3;have hsh:lP v=if zn v r c s then some (r.num.toNat,c.num.toNat,s.bytes)else none:=by
  unfold lP;rw[hps]
 obtain⟨vq,x0,hx0,a0,a1,a2,a3,a4⟩:=(hv0.up hV2).jE (i:=0) aa;obtain⟨_,x1,cY,c0,c1,c2,c3,c4⟩:=(hv0.up hV2).jE (i:=1) aa;obtain⟨_,x2,jB,d0,d1,d2,d3,d4⟩:=(hv0.up hV2).jE (i:=2) aa;have g0:v.parts[0]=r:=by simp[hps]
 have g1:v.parts[1]=c:=by simp[hps]
 have g2:v.parts[2]=s:=by simp[hps]
 rw[g0]at hx0;rw[g1]at cY;rw[g2]at jB;have k0:=hx0.kind;have k1:=cY.kind;have k2:=jB.kind;have n0:=hx0.num;have n1:=cY.num;have fN:=jB.bytes;have hbl:=fN.len;have Kf:s.bytes.length<=1048576:=(hB.part s (by rw[hps];simp)).bytes;have H0:Rel W V [.ax b1 [iv 4,iv n,bs.v,ss.v,pl.v] 27] V2 w:=H.sx;obtain⟨V3,aw,H,fE⟩:=H0.bt;clear H0;have o3:=fE.bE (i:=4) rfl;replace a0:=aw.cell a0;replace a1:=aw.cell a1;replace a2:=aw.cell a2;replace a3:=aw.cell a3;replace a4:=aw.cell a4;replace c0:=aw.cell c0;replace c1:=aw.cell c1;replace c2:=aw.cell c2;replace c3:=aw.cell c3;replace c4:=aw.cell c4;replace d0:=aw.cell d0;replace d1:=aw.cell d1;replace d2:=aw.cell d2;replace d3:=aw.cell d3;replace d4:=aw.cell d4;refine wk ?_
 refine aP.uX (λq:Nat×Nat×Nat=>[(1,.pointer (some ⟨b1,0,none⟩)),(2,iv 0),(3,iv 0),(4,.slice none 0 0),(5,.bool false),(6,.pointer (some ⟨q.1,0,none⟩)),(7,.pointer (some ⟨q.2.1,0,none⟩)),(8,.pointer (some ⟨q.2.2,0,none⟩))])
  (λq w'=>Rel W V [.ax q.1 (cr x0) 27,.ax q.2.1 (cr x1) 27,.ax q.2.2 (cr x2) 27] V3 w') ?_ ?_
 ·(first|refine cz (id:=3) ah mixed (Kv V3) Kv.trans [12,13,14,15,16] [1,3,5,7,9,11] [0,1,2,3,4,5,6,7,8,9,10,11,12,13,14,15,16,17] [(12,[]),(13,[]),(14,[]),(15,[12,13,14]),(16,[12,13,14,15]),(17,[12,13,14,15,16])] aj ?_|refine cz (id:=7) ah mixed (Kv V3) Kv.trans [] [] [0,1,2,3,4,5,6,7,8,9] [] aj ?_);intro w aR;replace H:=Rel.ext H aR.ext;repeat' ((first|(refine H.uI ?_;clear H;intros;rename_i w H;constructor)|refine wk ?_);(first|refine Kv.go H ?_|refine Kv.go2 H (by assumption) ?_|(refine And.intro (λw1 hkp=>?_) ?_;focus ((first|have H:=Kv.in H hkp|have H:=Kv.gi H (by assumption) hkp);((repeat ((conv=>whnf);first|refine an ?_|refine H.ce ?_|refine H.db ?_|refine ea ?_|refine ol ?_|fail|refine cT ?_|refine cF ?_|refine cN ?_|refine cM ?_|refine H.lw ?_|refine H.ll ?_));(conv=>whnf));all_goals (first|exact⟨rfl,rfl⟩|exact rfl)))|refine And.intro ?_ ?_|(refine H.nA ?_;clear H;intro w _ H)))
  all_goals
   refine H.wg ?_;clear H;intro w H;exact⟨(_,_,_),sB,H.pick⟩
 clear H;rintro⟨b6,b7,b8⟩w H;dsimp only at H;obtain⟨Bp,rH,Hw,HB,Hz⟩:=x0;obtain⟨Bq,rI,Hx,HC,HA⟩:=x1;obtain⟨Hy,Wu,Bo,Ww,Wv⟩:=x2;dsimp only at k0 k1 k2 n0 n1 fN hbl;dsimp only[cr]at H;refine wk ?_;refine(UC H.data ⟨Bp,rH,Hw,HB,Hz⟩).use ?_;rintro q w⟨rfl,K⟩;(replace H:=H.az K);by_cases q0:Bp=1/\1<=rH/\rH<=64;rotate_left
 ·rw[hsh,if_neg (λh=>q0 ⟨by rw[k0];exact h.wk,by rw[n0];exact h.w0⟩),decide_eq_false q0];refine wk ?_;exact⟨V,⟨none,0,0⟩,Sub.refl _,Rel.back H.sx,rfl⟩
 rw[decide_eq_true q0];refine wk ?_;refine(UC H.data ⟨Bq,rI,Hx,HC,HA⟩).use ?_;rintro q w⟨rfl,K⟩;(replace H:=H.az K);by_cases q1:Bq=1/\1<=rI/\rI<=64;rotate_left
 ·rw[hsh,if_neg (λh=>q1 ⟨by rw[k1];exact h.hk,by rw[n1];exact h.h0⟩),decide_eq_false q1];refine wk ?_;exact⟨V,⟨none,0,0⟩,Sub.refl _,Rel.back H.sx,rfl⟩
 rw[decide_eq_true q1];obtain⟨C,hC⟩:∃C:Nat,rH=C:=⟨rH.toNat,aa⟩
 subst hC;obtain⟨D,hD⟩:∃D:Nat,rI=D:=⟨rI.toNat,aa⟩
 subst hD;have Ap:r.num.toNat=C:=by rw[<-n0];simp
 have mr:c.num.toNat=D:=by rw[<-n1];simp
 have hmul:3*(C:Int)*(D:Int)=((3*C*D:Nat):Int):=by push_cast;rfl
 have sf:3*C*D<=192*64:=lU aa aa;by_cases q2:Hy=2;rotate_left
 ·rw[hsh,if_neg (λh=>q2 (by rw[k2];exact h.pk))];refine wk ?_;exact⟨V,⟨none,0,0⟩,Sub.refl _,Rel.back H.sx,rfl⟩
 by_cases q3:s.bytes.length=3*C*D;rotate_left
 ·rw[hsh,if_neg (λh=>q3 (by rw[<-mr,<-Ap];exact h.p0))];refine wk ?_;exact⟨V,⟨none,0,0⟩,Sub.refl _,Rel.back H.sx,rfl⟩
 have hok:zn v r c s:=⟨k4,hnn,aa,aa,aa,aa,aa,by rw[mr,Ap];exact q3⟩
 rw[hsh,if_pos hok,mr,Ap];have Fe:aB aE V3 Bo s.bytes:=fN.up aw;refine wk ?_;refine dV 7 [] [0,1,2,3,4,5,6,7,8,9] H ?_;clear H;intro w H;refine wk ?_;exact⟨V3,Bo,hV2.trans aw,H.sx,rfl,Fe⟩
end
theorem adE:∀a:Nat,a<256->∀s:Nat,s<8->∀p:Nat,p<2->a%2^(s+1)=0->bN .or .u8 (a:Int) ((p*2^s:Nat):Int)=((a+p*2^s:Nat):Int):=by decide +kernel
theorem adF:∀a:Nat,a<256->∀s:Nat,s<5->∀p:Nat,p<16->a%2^(s+4)=0->bN .or .u8 (a:Int) ((p*2^s:Nat):Int)=((a+p*2^s:Nat):Int):=by decide +kernel
def fZ(q:Nat->Nat)(i:Nat):Nat->Nat:=λj=>if j<i then q j else 0
theorem SM(n size:Nat)(q:Nat->Nat):(j3 n size (fZ q 0)).flatMap aE=List.replicate size (Value.int .u8 0):=by
 rw[fc];have:j3 n size (fZ q 0)=List.replicate size 0:=by
  refine List.eq_replicate_iff.2 ⟨qR ..,λb hb=>?_⟩;obtain⟨k,_,rfl⟩:=cG.1 hb;simp[byteOf,fZ]
 rw[this,List.map_replicate];rfl
theorem HZ(hn:n=1\/n=4)(q:Nat->Nat)(i:Nat):byteOf n (fZ q (i+1)) (i*n/8)=byteOf n (fZ q i) (i*n/8)+q i*2^(8-n-i*n%8)/\byteOf n (fZ q i) (i*n/8)%2^(8-n-i*n%8+n)=0/\∀k,k≠i*n/8->byteOf n (fZ q (i+1)) k=byteOf n (fZ q i) k:=by
 have out:∀j,j≠i->fZ q (i+1) j=fZ q i j:=by
  intro j hj;unfold fZ;by_cases h:j<i
  ·rw[if_pos h,if_pos aa]
  ·rw[if_neg h,if_neg aa]
 have aX:fZ q (i+1) i=q i:=by unfold fZ;rw[if_pos aa]
 have cR:∀j,i<=j->fZ q i j=0:=λj hj=>by unfold fZ;rw[if_neg aa]
 rcases hn with rfl|rfl
 ·refine⟨?_,?_,λk hk=>?_⟩
  ·unfold byteOf;rw[if_neg ag,if_neg ag,uj];obtain⟨k,hk⟩:∃k,k=i/8:=⟨_,rfl⟩
   rw[<-hk];have hc:i%8=0\/i%8=1\/i%8=2\/i%8=3\/i%8=4\/i%8=5\/i%8=6\/i%8=7:=aa;rcases hc with h|h|h|h|h|h|h|h<;>rw[h]
   ·obtain rfl:i=8*k:=aa;rw[aX,out (8*k+1) aa,out (8*k+2) aa,out (8*k+3) aa,out (8*k+4) aa,out (8*k+5) aa,out (8*k+6) aa,out (8*k+7) aa,cR (8*k) aa];simp only[Nat.reducePow,Nat.reduceSub];omega
   ·obtain rfl:i=8*k+1:=aa;rw[aX,out (8*k) aa,out (8*k+2) aa,out (8*k+3) aa,out (8*k+4) aa,out (8*k+5) aa,out (8*k+6) aa,out (8*k+7) aa,cR (8*k+1) aa];simp only[Nat.reducePow,Nat.reduceSub];omega
   ·obtain rfl:i=8*k+2:=aa;rw[aX,out (8*k) aa,out (8*k+1) aa,out (8*k+3) aa,out (8*k+4) aa,out (8*k+5) aa,out (8*k+6) aa,out (8*k+7) aa,cR (8*k+2) aa];simp only[Nat.reducePow,Nat.reduceSub];omega
   ·obtain rfl:i=8*k+3:=aa;rw[aX,out (8*k) aa,out (8*k+1) aa,out (8*k+2) aa,out (8*k+4) aa,out (8*k+5) aa,out (8*k+6) aa,out (8*k+7) aa,cR (8*k+3) aa];simp only[Nat.reducePow,Nat.reduceSub];omega
   ·obtain rfl:i=8*k+4:=aa;rw[aX,out (8*k) aa,out (8*k+1) aa,out (8*k+2) aa,out (8*k+3) aa,out (8*k+5) aa,out (8*k+6) aa,out (8*k+7) aa,cR (8*k+4) aa];simp only[Nat.reducePow,Nat.reduceSub];omega
   ·obtain rfl:i=8*k+5:=aa;rw[aX,out (8*k) aa,out (8*k+1) aa,out (8*k+2) aa,out (8*k+3) aa,out (8*k+4) aa,out (8*k+6) aa,out (8*k+7) aa,cR (8*k+5) aa];simp only[Nat.reducePow,Nat.reduceSub];omega
   ·obtain rfl:i=8*k+6:=aa;rw[aX,out (8*k) aa,out (8*k+1) aa,out (8*k+2) aa,out (8*k+3) aa,out (8*k+4) aa,out (8*k+5) aa,out (8*k+7) aa,cR (8*k+6) aa];simp only[Nat.reducePow,Nat.reduceSub];omega
   ·obtain rfl:i=8*k+7:=aa;rw[aX,out (8*k) aa,out (8*k+1) aa,out (8*k+2) aa,out (8*k+3) aa,out (8*k+4) aa,out (8*k+5) aa,out (8*k+6) aa,cR (8*k+7) aa];simp only[Nat.reducePow,Nat.reduceSub];omega
  ·unfold byteOf;rw[if_neg ag,uj];obtain⟨k,hk⟩:∃k,k=i/8:=⟨_,rfl⟩
   rw[<-hk];have hc:i%8=0\/i%8=1\/i%8=2\/i%8=3\/i%8=4\/i%8=5\/i%8=6\/i%8=7:=aa;rcases hc with h|h|h|h|h|h|h|h<;>rw[h]
   ·rw[cR (8*k) aa,cR (8*k+1) aa,cR (8*k+2) aa,cR (8*k+3) aa,cR (8*k+4) aa,cR (8*k+5) aa,cR (8*k+6) aa,cR (8*k+7) aa]
   ·rw[cR (8*k+1) aa,cR (8*k+2) aa,cR (8*k+3) aa,cR (8*k+4) aa,cR (8*k+5) aa,cR (8*k+6) aa,cR (8*k+7) aa];simp only[Nat.reducePow,Nat.reduceSub,Nat.reduceAdd];omega
   ·rw[cR (8*k+2) aa,cR (8*k+3) aa,cR (8*k+4) aa,cR (8*k+5) aa,cR (8*k+6) aa,cR (8*k+7) aa];simp only[Nat.reducePow,Nat.reduceSub,Nat.reduceAdd];omega
   ·rw[cR (8*k+3) aa,cR (8*k+4) aa,cR (8*k+5) aa,cR (8*k+6) aa,cR (8*k+7) aa];simp only[Nat.reducePow,Nat.reduceSub,Nat.reduceAdd];omega
   ·rw[cR (8*k+4) aa,cR (8*k+5) aa,cR (8*k+6) aa,cR (8*k+7) aa];simp only[Nat.reducePow,Nat.reduceSub,Nat.reduceAdd];omega
   ·rw[cR (8*k+5) aa,cR (8*k+6) aa,cR (8*k+7) aa];simp only[Nat.reducePow,Nat.reduceSub,Nat.reduceAdd];omega
   ·rw[cR (8*k+6) aa,cR (8*k+7) aa];simp only[Nat.reducePow,Nat.reduceSub,Nat.reduceAdd];omega
   ·rw[cR (8*k+7) aa];simp only[Nat.reducePow,Nat.reduceSub,Nat.reduceAdd];omega
  ·rw[uj]at hk;unfold byteOf;rw[if_neg ag,if_neg ag,out (8*k) aa,out (8*k+1) aa,out (8*k+2) aa,out (8*k+3) aa,out (8*k+4) aa,out (8*k+5) aa,out (8*k+6) aa,out (8*k+7) aa]
 ·refine⟨?_,?_,λk hk=>?_⟩
  ·unfold byteOf;rw[if_pos rfl,if_pos rfl];obtain⟨k,hk⟩:∃k,k=i*4/8:=⟨_,rfl⟩
   rw[<-hk];have hc:i*4%8=0\/i*4%8=4:=aa;rcases hc with h|h<;>rw[h]
   ·obtain rfl:i=2*k:=aa;rw[aX,out (2*k+1) aa,cR (2*k) aa];simp only[Nat.reducePow,Nat.reduceSub];omega
   ·obtain rfl:i=2*k+1:=aa;rw[aX,out (2*k) aa,cR (2*k+1) aa];simp only[Nat.reducePow,Nat.reduceSub];omega
  ·unfold byteOf;rw[if_pos rfl];obtain⟨k,hk⟩:∃k,k=i*4/8:=⟨_,rfl⟩
   rw[<-hk];have hc:i*4%8=0\/i*4%8=4:=aa;rcases hc with h|h<;>rw[h]
   ·rw[cR (2*k) aa,cR (2*k+1) aa]
   ·rw[cR (2*k+1) aa];simp only[Nat.reducePow,Nat.reduceSub,Nat.reduceAdd];omega
  ·unfold byteOf;rw[if_pos rfl,if_pos rfl,out (2*k) aa,out (2*k+1) aa]
theorem SL{size:Nat}(hn:n=1\/n=4)(q:Nat->Nat){i:Nat}(hi:i*n/8<size):j3 n size (fZ q (i+1))=(j3 n size (fZ q i)).set (i*n/8) (UInt8.ofNat (byteOf n (fZ q i) (i*n/8)+q i*2^(8-n-i*n%8))):=by
 obtain⟨h1,_,h3⟩:=HZ hn q i;refine List.ext_getElem? λk=>?_;rw[List.getElem?_set,qR];by_cases hk:i*n/8=k
 ·rw[if_pos hk,if_pos aa];unfold j3;rw[eu,pP aa,<-hk];simp only[gA];rw[h1]
 ·rw[if_neg hk];by_cases hs:k<size
  ·unfold j3;rw[eu,eu,pP hs];simp only[gA];rw[h3 k (λe=>hk e.symm)]
  ·rw[jk (by rw[qR];omega),jk (by rw[qR];omega)]
section
variable{V W:ae}
theorem Uz{x sh:Nat}{y:Int}(hy:y=sh)(h:sh<=64):(x:Int)*2^min y.toNat IntKind.i64.bits=((x*2^sh:Nat):Int):=by
 have e:min y.toNat IntKind.i64.bits=sh:=by
  rw[hy,e8];show min sh 64=sh;omega
 rw[e,Int.natCast_mul,Int.natCast_pow];rfl
theorem zC(h:n<256):bv (UInt8.ofNat n)=Value.int .u8 (n:Int):=by
 simp only[bv];rw[UInt8.toNat_ofNat',Nat.mod_eq_of_lt h]
theorem NO(l:ad)(j:Nat)(x:UInt8):(l.flatMap aE).set j (bv x)=(l.set j x).flatMap aE:=by
 rw[fc,fc,List.map_set]
theorem aiG(hV:Sub V W){f:Nat}(hf:f<64){ps:Sl}{aH:List bS}(hp:l7 V ps aH)(hpo:kF f aH){s:Sl}{px:ad}(hs:ay V s px){wd:Nat}(hw:wd<=64)(hl:px.length=3*wd):aC 218 [.agg (fV f ps).toArray,s.v] W (Nq W V (oR f aH wd px)):=by
 have H:=Rel.start hV;have hlen:=hs.len;have mo:=hs.cap;refine eV Tryz.func218 81 [0,1,2,4,5,6,7,8,9,10,11,13,14,17,22,42,43,44,59] ?_;refine wk ?_;refine H.nA ?_;clear H;intro w b2 H;refine wk ?_;refine(zN H.data aa ps).use ?_;rintro q w⟨rfl,K⟩;(replace H:=H.az K);unfold oR;by_cases h3:f/16=3
 ·rw[if_pos h3];refine wk ?_;exact⟨V,s,Sub.refl _,H.sx,rfl,hs⟩
 rw[if_neg h3];by_cases h2:f/16=2
 ·rw[if_pos h2];refine wk ?_;replace H:=H.cb 5 1;refine aY (S:=Nat×Sl) ah [0,1,2,4,5,8,9,10,11,13,14,17,42,43,44,59] (λk=>[(6,k.2.v),(7,iv ((3*k.1:Nat):Int))]) (λk w'=>k.1<=wd/\Rel W V [.row k.2 5 1 (((List.range k.1).map λi=>z8 px (3*i)).flatMap aE)] V w') (λk _=>wd-k.1) (0,⟨none,0,0⟩) ?_;conv=>whnf
  refine⟨sB,⟨aa,H.sx⟩,?_⟩;clear H;rintro⟨k,r⟩w⟨hk,H⟩;dsimp only at hk H |-;by_cases hlt:k<wd
  ·obtain⟨q0,d0⟩:=nQ hs (i:=3*k) aa;refine H.wg ?_;clear H;intro _ w H;refine Rel.dC (f:=aE) (l:=(List.range k).map λi=>z8 px (3*i)) (x:=z8 px (3*k)) ah rfl rfl rfl rfl rfl ag (λ_=>rfl) (by simp[Value.oneCell',bv]) H (by rw[bu,qX];show(k+1)*1<=_;omega) (by rw[bu,qX];omega) ?_;clear H;intro r1 w H;rw[show((List.range k).map λi=>z8 px (3*i))++[z8 px (3*k)]=(List.range (k+1)).map λi=>z8 px (3*i)by rw[List.range_succ,eZ];rfl]at H;refine wk ?_;exact⟨sB,(k+1,r1),⟨rfl,congrArg (λz=>some (iv z)) aa,trivial⟩,⟨by dsimp only;omega,H.sx⟩,by dsimp only;omega⟩
  ·obtain rfl:k=wd:=aa;obtain⟨V2,hV2,H,hr⟩:=Rel.aT H (λ_=>rfl) ag;refine wk ?_;exact⟨V2,r,hV2,H.sx,rfl,hr⟩
 rw[if_neg h2];obtain⟨hn,h32,hm⟩:=HX hf h3 h2;obtain⟨pp1,pp2,pp3⟩:=hpo.ind h32;have hpl:=hp.len;have hm2:=Di f;have hsz:rowOf f wd=(wd*bitsOf f+7)/8:=rfl;have Qn:wd*bitsOf f<=64*24:=lU hw (BM f).2;have hu:aH.length<=2^bitsOf f:=aa;refine wk ?_;rcases hn with e|e
 ·rw[e]at hsz hu Qn;rw[show((s.len:Nat):Int)/3=(wd:Int)by omega];refine(Mh H.data hf ps hw).use ?_;rintro q w⟨rfl,K⟩;(replace H:=H.az K);refine wk ?_;refine GY ah rfl rfl rfl rfl rfl rfl aa (by simp;omega) aa λw b6 lH=>?_;replace H:=H.yr lH;clear lH;simp only[e8]at H |-;rw[<-SM 1 (rowOf f wd) (gY aH wd px)]at H;replace H:=H.fA (n:=rowOf f wd) (e:=5) (sz:=1) (by simp[fc,qR]) (by simp only[maxLen];omega);refine wk ?_;refine(Es H.data hf ps).use ?_;rintro q w⟨rfl,K⟩;(replace H:=H.az K);rw[e];refine wk ?_;refine aY (S:=Nat) ah [0,1,2,6,7,8,9,13,14,17,22,42] (λi=>[(43,iv i)]) (λi w'=>i<=wd/\(∀j,j<i->dJ px j∈aH)/\Rel W V [.row ⟨some ⟨b6,0,none⟩,rowOf f wd,rowOf f wd⟩ 5 1 ((j3 1 (rowOf f wd) (fZ (gY aH wd px) i)).flatMap aE),.ax b2 (fV f ps) 160] V w') (λi _=>wd-i) 0 ?_;conv=>whnf
  refine⟨sB,⟨aa,λj hj=>by omega,H⟩,?_⟩;clear H;rintro i w⟨hi,hA,H⟩;dsimp only at hi hA H |-;by_cases hlt:i<wd
  ·obtain⟨q0,d0⟩:=nQ hs (i:=3*i) aa;obtain⟨_,d1⟩:=nQ hs (i:=3*i+1) aa;obtain⟨_,d2⟩:=nQ hs (i:=3*i+2) aa;refine wk ?_;(first|refine dV 17 [9] [0,1,2,3,4,5,6,7,8,9,10,11,12] H ?_|refine dV 20 [] [0,1,2,3,4,5,6,7,8,9,10,11,12,13,14,15,16,17,18,19] H ?_);clear H;intro w H;refine wk ?_;refine Mq (n:=3) (e:=5) aj aa ?_;rw[Mz q0 aa,show(3*(i:Int)).toNat*1=3*i by omega];refine⟨Ext.refl _,?_⟩;refine wk ?_;refine(Kt H.data hp aa (dJ px i)).use ?_;rintro q w⟨rfl,K⟩;(replace H:=H.az K);by_cases hc:dJ px i∈aH;rotate_left
   ·rw[if_neg hc,if_neg (λh=>hc (h i hlt))];refine wk ?_;exact⟨V,⟨none,0,0⟩,Sub.refl _,H.sx,rfl⟩
   rw[if_pos hc];have CP:gY aH wd px i=ku aH (dJ px i):=by unfold gY;rw[if_pos hlt]
   obtain⟨k,hk⟩:∃k,k=ku aH (dJ px i):=⟨_,rfl⟩
   have fP:=(Dv (dJ px i) aH).2.2 hc;rw[<-hk]at fP |-;have CL:k<2^1:=aa;have hA2:∀j,j<i+1->dJ px j∈aH:=λj hj=>by
    by_cases e2:j=i
    ·rw[e2];exact hc
    ·exact hA j aa
   have hcq:∀m,m<=i+1->∀j,fZ (gY aH wd px) m j<2^1:=λm xQ j=>by
    unfold fZ;split
    ·rename_i hj;have:=(Dv (dJ px j) aH).2.2 (hA2 j aa);unfold gY;split
     ·omega
     ·decide
    ·decide
   have tF:i*1/8<rowOf f wd:=aa;obtain⟨hy,hz,_⟩:=HZ (n:=1) ag (gY aH wd px) i;have jY:=Ev (n:=1) ag (hcq i aa) (i*1/8);have JT:=Ev (n:=1) ag (hcq (i+1) aa) (i*1/8);have mD:=SL (n:=1) ag (gY aH wd px) tF;rw[CP,<-hk]at mD;have iN:=adE _ jY (8-1-i*1%8) aa k CL hz;have qH:k*2^(8-1-i*1%8)<256:=LD (lU (show k<=1 by omega) (AY ag (show 8-1-i*1%8<=7 by omega))) ag;have Km:wr .u8 ((k*2^(8-1-i*1%8):Nat):Int)=((k*2^(8-1-i*1%8):Nat):Int):=by
    show((k*2^(8-1-i*1%8):Nat):Int)%256=_;omega
   refine wk ?_;(first|refine dV 17 [9] [0,1,2,3,4,5,6,7,8,9,10,11,12] H ?_|refine dV 20 [] [0,1,2,3,4,5,6,7,8,9,10,11,12,13,14,15,16,17,18,19] H ?_);clear H;intro w H;have S5:=H.eG (i:=0) rfl (λ_=>rfl) ag;obtain⟨p9,c9⟩:=nQ S5 (i:=i*1/8) (by rw[qR];exact tF);rw[K4 tF,zC jY]at c9;refine wk ?_;rw[Uz (sh:=8-1-i*1%8) aa aa];refine wk ?_;rw[Km,iN];refine Rel.G6 (i:=0) H rfl (i*1/8) tF rfl (by
    rw[show((i:Int)*((1:Nat):Int)/8).toNat=i*1/8 by omega];rfl) ?_
   clear H;intro w H;simp only[bC]at H;rw[CP,<-hk]at hy;rw[<-zC (by rw[<-hy];exact JT),NO,<-mD]at H;refine wk ?_;exact⟨sB,i+1,sB,⟨aa,hA2,H⟩,aa⟩
  ·obtain rfl:i=wd:=aa;rw[if_pos (λj hj=>hA j hj)];have hcc:j3 1 (rowOf f i) (fZ (gY aH i px) i)=j3 1 (rowOf f i) (gY aH i px):=by
    congr 1;funext j;unfold fZ gY;split<;>rfl
   rw[hcc]at H;obtain⟨V2,hV2,H,hr⟩:=Rel.aT H (λ_=>rfl) ag;refine wk ?_;exact⟨V2,_,hV2,H.sx,rfl,hr⟩
 ·rw[e]at hsz hu Qn;rw[show((s.len:Nat):Int)/3=(wd:Int)by omega];refine(Mh H.data hf ps hw).use ?_;rintro q w⟨rfl,K⟩;(replace H:=H.az K);refine wk ?_;refine GY ah rfl rfl rfl rfl rfl rfl aa (by simp;omega) aa λw b6 lH=>?_;replace H:=H.yr lH;clear lH;simp only[e8]at H |-;rw[<-SM 4 (rowOf f wd) (gY aH wd px)]at H;replace H:=H.fA (n:=rowOf f wd) (e:=5) (sz:=1) (by simp[fc,qR]) (by simp only[maxLen];omega);refine wk ?_;refine(Es H.data hf ps).use ?_;rintro q w⟨rfl,K⟩;(replace H:=H.az K);rw[e];refine wk ?_;refine aY (S:=Nat) ah [0,1,2,6,7,8,9,13,14,17,22,42] (λi=>[(43,iv i)]) (λi w'=>i<=wd/\(∀j,j<i->dJ px j∈aH)/\Rel W V [.row ⟨some ⟨b6,0,none⟩,rowOf f wd,rowOf f wd⟩ 5 1 ((j3 4 (rowOf f wd) (fZ (gY aH wd px) i)).flatMap aE),.ax b2 (fV f ps) 160] V w') (λi _=>wd-i) 0 ?_;conv=>whnf
  refine⟨sB,⟨aa,λj hj=>by omega,H⟩,?_⟩;clear H;rintro i w⟨hi,hA,H⟩;dsimp only at hi hA H |-;by_cases hlt:i<wd
  ·obtain⟨q0,d0⟩:=nQ hs (i:=3*i) aa;obtain⟨_,d1⟩:=nQ hs (i:=3*i+1) aa;obtain⟨_,d2⟩:=nQ hs (i:=3*i+2) aa;refine wk ?_;(first|refine dV 17 [9] [0,1,2,3,4,5,6,7,8,9,10,11,12] H ?_|refine dV 20 [] [0,1,2,3,4,5,6,7,8,9,10,11,12,13,14,15,16,17,18,19] H ?_);clear H;intro w H;refine wk ?_;refine Mq (n:=3) (e:=5) aj aa ?_;rw[Mz q0 aa,show(3*(i:Int)).toNat*1=3*i by omega];refine⟨Ext.refl _,?_⟩;refine wk ?_;refine(Kt H.data hp aa (dJ px i)).use ?_;rintro q w⟨rfl,K⟩;(replace H:=H.az K);by_cases hc:dJ px i∈aH;rotate_left
   ·rw[if_neg hc,if_neg (λh=>hc (h i hlt))];refine wk ?_;exact⟨V,⟨none,0,0⟩,Sub.refl _,H.sx,rfl⟩
   rw[if_pos hc];have CP:gY aH wd px i=ku aH (dJ px i):=by unfold gY;rw[if_pos hlt]
   obtain⟨k,hk⟩:∃k,k=ku aH (dJ px i):=⟨_,rfl⟩
   have fP:=(Dv (dJ px i) aH).2.2 hc;rw[<-hk]at fP |-;have CL:k<2^4:=aa;have hA2:∀j,j<i+1->dJ px j∈aH:=λj hj=>by
    by_cases e2:j=i
    ·rw[e2];exact hc
    ·exact hA j aa
   have hcq:∀m,m<=i+1->∀j,fZ (gY aH wd px) m j<2^4:=λm xQ j=>by
    unfold fZ;split
    ·rename_i hj;have:=(Dv (dJ px j) aH).2.2 (hA2 j aa);unfold gY;split
     ·omega
     ·decide
    ·decide
   have tF:i*4/8<rowOf f wd:=aa;obtain⟨hy,hz,_⟩:=HZ (n:=4) ag (gY aH wd px) i;have jY:=Ev (n:=4) ag (hcq i aa) (i*4/8);have JT:=Ev (n:=4) ag (hcq (i+1) aa) (i*4/8);have mD:=SL (n:=4) ag (gY aH wd px) tF;rw[CP,<-hk]at mD;have iN:=adF _ jY (8-4-i*4%8) aa k CL hz;have qH:k*2^(8-4-i*4%8)<256:=LD (lU (show k<=15 by omega) (AY ag (show 8-4-i*4%8<=4 by omega))) ag;have Km:wr .u8 ((k*2^(8-4-i*4%8):Nat):Int)=((k*2^(8-4-i*4%8):Nat):Int):=by
    show((k*2^(8-4-i*4%8):Nat):Int)%256=_;omega
   refine wk ?_;(first|refine dV 17 [9] [0,1,2,3,4,5,6,7,8,9,10,11,12] H ?_|refine dV 20 [] [0,1,2,3,4,5,6,7,8,9,10,11,12,13,14,15,16,17,18,19] H ?_);clear H;intro w H;have S5:=H.eG (i:=0) rfl (λ_=>rfl) ag;obtain⟨p9,c9⟩:=nQ S5 (i:=i*4/8) (by rw[qR];exact tF);rw[K4 tF,zC jY]at c9;refine wk ?_;rw[Uz (sh:=8-4-i*4%8) aa aa];refine wk ?_;rw[Km,iN];refine Rel.G6 (i:=0) H rfl (i*4/8) tF rfl (by
    rw[show((i:Int)*((4:Nat):Int)/8).toNat=i*4/8 by omega];rfl) ?_
   clear H;intro w H;simp only[bC]at H;rw[CP,<-hk]at hy;rw[<-zC (by rw[<-hy];exact JT),NO,<-mD]at H;refine wk ?_;exact⟨sB,i+1,sB,⟨aa,hA2,H⟩,aa⟩
  ·obtain rfl:i=wd:=aa;rw[if_pos (λj hj=>hA j hj)];have hcc:j3 4 (rowOf f i) (fZ (gY aH i px) i)=j3 4 (rowOf f i) (gY aH i px):=by
    congr 1;funext j;unfold fZ gY;split<;>rfl
   rw[hcc]at H;obtain⟨V2,hV2,H,hr⟩:=Rel.aT H (λ_=>rfl) ag;refine wk ?_;exact⟨V2,_,hV2,H.sx,rfl,hr⟩
end
theorem F8:∀(n:Nat) (l:ad),l.length<n->(ik l).length<=2*l.length
 | 0,_,h=>absurd h (Nat.not_lt_zero _)
 | n+1,l,hn=>by
  by_cases hl:l=[]
  ·rw[hl,K2];simp
  have h1:0<l.length:=jF.2 hl;by_cases h3:3<=fy l
  ·have hr:=Mj l;have:=F8 n (l.drop (fy l)) (by rw[bd];omega);rw[K3 h3];simp only[av,bd]at this |-;omega
  ·have hk:=FM hl;have:=F8 n (l.drop (jD l)) (by rw[bd];omega);rw[Du hl aa];simp only[av,aq,bb,bd]at this |-;omega
theorem Wr{f w:Nat}{px row:ad}(hw:w<=64)(hl:px.length=3*w)(h:oR f aH w px=some row):row.length<=200:=by
 unfold oR at h;split at h
 ·cases h;omega
 ·split at h
  ·cases h;simp;omega
  ·split at h
   ·cases h;rw[qR];unfold rowOf;have:=lU hw (BM f).2;omega
   ·cases h
theorem Nk{f w h:Nat}(hw:w<=64)(hh:h<=64){d:ad}(hd:d.length=h*(3*w)){k:Nat}{R:bg}(hR:allM (oR f aH w) ((cX (3*w) h d).take k)=some R):R.flatten.length<=12800:=by
 obtain⟨h1,h2⟩:=o0 hR;rw[bb,lV]at h1;have key:∀r∈R,r.length<=200:=λr hr=>by
  obtain⟨i,hi,rfl⟩:=List.mem_iff_getElem.1 hr;have hy:((cX (3*w) h d).take k)[i]?=some (((cX (3*w) h d).take k)[i]'(by rw[bb,lV];omega)):=a8 _;exact Wr hw (yL hd (List.mem_of_mem_take (List.mem_of_getElem? hy))) (h2 i _ _ hy (a8 hi))
 have le:∀l:bg,(∀r∈l,r.length<=200)->l.flatten.length<=l.length*200:=by
  intro l;induction l with
  | nil=>intro _;simp
  | cons r l ih =>
   intro h;have:=ih λx hx=>h x (by simp[hx]);have:=h r ai;simp only[ji,aq,av];omega
 have:=le R key;omega
theorem Qy{a:Nat}(ha:a<256)(hb:b<256)(hc:c<256):[Value.int .u8 (wr .u8 (a:Int)),Value.int .u8 (wr .u8 (b:Int)),Value.int .u8 (wr .u8 (c:Int))]=[UInt8.ofNat a,UInt8.ofNat b,UInt8.ofNat c].flatMap aE:=by
 have e:∀n:Nat,n<256->Value.int .u8 (wr .u8 (n:Int))=bv (UInt8.ofNat n):=λn h=>by
  rw[zC h];congr 1;show(n:Int)%256=n;omega
 rw[e a ha,e b hb,e c hc];rfl
theorem FG(hn:n<65536):[Value.int .u8 (wr .u8 ((n:Int)/256)),Value.int .u8 (wr .u8 (n:Int))]=[UInt8.ofNat (n/256),UInt8.ofNat n].flatMap aE:=by
 have e1:Value.int .u8 (wr .u8 ((n:Int)/256))=bv (UInt8.ofNat (n/256)):=by
  rw[zC aa];congr 1;show(n:Int)/256%256=_;omega
 have e2:Value.int .u8 (wr .u8 (n:Int))=bv (UInt8.ofNat n):=by
  simp only[bv];rw[UInt8.toNat_ofNat'];congr 1
 rw[e1,e2];rfl
section
variable{V W:ae}
theorem aiJ(hV:Sub V W){f:Nat}(hf:f<64){ps:Sl}{aH:List bS}(hp:l7 V ps aH)(hpo:kF f aH){s:Sl}{px:ad}(hs:ay V s px){wd ht:Nat}(hw0:1<=wd)(hw:wd<=64)(hh:ht<=64)(hl:px.length=ht*(3*wd)) :
  aC 137 [.agg (fV f ps).toArray,iv (wd:Int),iv (ht:Int),s.v] W (Nr W V (vG f aH wd ht px)):=by
 have H:=Rel.start hV;have hlen:=hs.len;have hl2:px.length<=12288:=by rw[hl];have:=lU hh (show 3*wd<=192 by omega);omega
 have e3:3*(wd:Int)=((3*wd:Nat):Int):=aa;refine qo ah Tryz.func137 rfl aj 71 rfl ai [0,1,2,3,4,8,9,10,11,12,13,14,16,24,25,33,38,53] ?_;refine aP.dH ah ?_;refine wk ?_;refine H.nA ?_;clear H;intro w b4 H;refine wk ?_;refine H.nA ?_;clear H;intro w b8 H;refine wk ?_;refine H.nA ?_;clear H;intro w b9 H;refine wk ?_
 refine aP.oH ah (λq:Sl=>[(1,iv wd),(2,iv ht),(3,q.v),(4,.pointer (some ⟨b4,0,none⟩)),(8,.pointer (some ⟨b8,0,none⟩)),(9,.pointer (some ⟨b9,0,none⟩))])
  (λq w'=>∃V2,Sub V V2/\Rel W V [.ax b9 [.bool false] 4,.ax b8 [.slice none 0 0] 22,.ax b4 (fV f ps) 160] V2 w'/\ay V2 q (turn f (cX (3*wd) ht px)).flatten) ?_ ?_
 ·refine wk ?_;refine(Qk H.data aa ps).use ?_;rintro q w⟨rfl,K⟩;(replace H:=H.az K);unfold turn;by_cases tU:f%2=1
  ·rw[decide_eq_true tU,if_pos tU];refine wk ?_;rw[e3];refine(Uf (h:=ht) H.data hs aa aa aa hl aa).use ?_;rintro v w⟨r6,rfl,K⟩;(replace H:=Rel.call H K);simp only[aL,aA]at H;obtain⟨V2,hV2,H,Fu⟩:=Rel.aT H (λ_=>rfl) ag;refine wk ?_;exact⟨r6,sB,V2,hV2,H.sx,Fu⟩
  ·rw[decide_eq_false tU,if_neg tU,GN hl];refine wk ?_;exact⟨s,sB,V,Sub.refl _,H.sx,hs⟩
 clear H;rintro q0 w⟨V2,hV2,H,hq0⟩;obtain⟨d,hde⟩:∃d,d=(turn f (cX (3*wd) ht px)).flatten:=⟨_,rfl⟩
 have jS:d.length=ht*(3*wd)/\cX (3*wd) ht d=turn f (cX (3*wd) ht px):=by
  have:=zX (s:=3*wd) (R:=turn f (cX (3*wd) ht px)) λr hr=>yL hl (KH.1 hr);rw[MQ,lV,<-hde]at this;exact this
 rw[<-hde]at hq0;have hst:yx f aH wd ht px=match allM (oR f aH wd) (cX (3*wd) ht d)with
  | none=>none
  | some R=>some (if f/2%2=1 then ik R.flatten else R.flatten):=by
  unfold yx
  rw[jS.2]
  rfl
 have hdl:=jS.1;unfold vG;refine aP.dH ah ?_;refine wk ?_;refine H.nA ?_;clear H;intro w ix H;refine wk ?_;refine aP.go ah ?_;refine wk ?_;rw[e3];refine(EB H.data q0 (n:=3*wd) aa).use ?_;rintro v w⟨b,c,rfl,V3,aw,K,hb,hc⟩;(replace H:=H.az K);refine wk ?_;have Ce:=H.base.size;replace H:=H.cb 5 1;have fg:=hV2.trans aw
 refine LU ah rfl (by(conv=>whnf)) (EA (m:=ht) hb hc (hq0.up aw) aa aa aa (by rw[hdl];exact zG aa)) ?_ rfl (σ:=Sl×bg) (τ:=Unit)
  (λk q=>[.row q.1 5 1 (q.2.flatten.flatMap aE),.ax ix [q.1.v] 22,.ax b9 [.bool false] 4,.ax b8 [.slice none 0 0] 22,.ax b4 (fV f ps) 160]) (λ_ _=>rfl)
  (λk q _=>allM (oR f aH wd) ((cX (3*wd) ht d).take k)=some q.2)
  (λ_ _=>[.ax b9 [.bool false] 4,.ax b8 [.slice none 0 0] 22]) (λ_ _=>rfl) (λc _ _=>c=.ret/\yx f aH wd ht px=none) (⟨none,0,0⟩,[]) (Sub.refl _) H.sx rfl ?_ ?_ ?_
 ·intro y hy;obtain⟨i,_,rfl⟩:=cG.1 hy;rfl
 ·clear H;rintro L k x w⟨r,R⟩V4 hx aG hF H;have hk:k<ht:=by
   have:=(List.getElem?_eq_some_iff.1 hx).1;rwa [tp]at this
  rw[BT hk]at hx;cases hx;conv=>whnf
  refine⟨rfl,l8.refl _ _,λw' gv=>?_⟩;obtain⟨X,H,hX⟩:=(H.tw rfl Ce gv).marks rfl Ce;simp only[aL,aA]at H;dsimp only at hF H;clear gv;generalize w'=w at H hX |-;have lG:k*(3*wd)<d.length:=by rw[hdl];exact(zG aa k).1 hk
  have hch:=H8 ((hq0.up aw).up aG) (n:=3*wd) aa lG;have xZ:(pa d (3*wd) k).length=3*wd:=by
   have hm:pa d (3*wd) k∈cX (3*wd) ht d:=cG.2 ⟨k,List.mem_range.2 hk,rfl⟩;exact yL hdl hm
  have cJ:=Nk hw hh hdl hF;refine wk ?_;refine(aiG H.data hf ((hp.up fg).up aG) hpo hch hw xZ).use ?_;rintro v w2⟨V5,r5,aQ,K,hres⟩;(replace H:=H.az K);have fP:k<(cX (3*wd) ht d).length:=by rw[lV];exact hk
  have gd:(cX (3*wd) ht d)[k]=pa d (3*wd) k:=by
   have:=Mi (s:=3*wd) (l:=d) hk;rw[a8 fP]at this;exact Option.some.inj this
  cases hpx:oR f aH wd (pa d (3*wd) k)with
  | none =>
   rw[hpx]at hres;obtain rfl:=hres;have hno:yx f aH wd ht px=none:=by
    rw[hst,zw (cj fP) (by rw[gd];exact hpx)]
   refine H.wg ?_;clear H;intro _ w H;exact⟨hX _ (λr hr=>H.laid r (by simp[hr])),V5,(),aG.trans aQ,⟨rfl,hno⟩,H.sx⟩
  | some y =>
   rw[hpx]at hres;obtain⟨rfl,ko⟩:=hres;have E3:=Ny fP hF (by rw[gd];exact hpx);have sw:=Wr hw xZ hpx;refine wk ?_;refine Rel.eJ H (i:=0) rfl ko aa ?_;clear H;intro r1 w H;simp only[bC]at H;refine H.wg ?_;clear H;intro w H;refine⟨hX _ (λr hr=>H.laid r (by simp[hr])),V5,(r1,R++[y]),aG.trans aQ,E3,?_⟩;rw[List.flatten_append,List.flatten_singleton];exact H.sx
 ·clear H;rintro D w⟨r,R⟩V4 aG hF H;simp only[aL,aA]at H;rw[tp]at hF;dsimp only at hF H;have cJ:=Nk hw hh hdl hF;rw[bR (by rw[lV];omega)]at hF;rw[hF]at hst;rw[hst];dsimp only;obtain⟨V5,aQ,H,ko⟩:=Rel.aT H (λ_=>rfl) ag;refine wk ?_;refine(Ql H.data aa ps).use ?_;rintro q w⟨rfl,K⟩;(replace H:=H.az K);by_cases dS:f/2%2=1
  ·rw[decide_eq_true dS,if_pos dS];have hpl:=F8 _ R.flatten (Nat.lt_succ_self _);refine wk ?_;refine(SN H.data ko aa).use ?_;rintro q w⟨rB,rfl,K⟩;(replace H:=Rel.call H K);simp only[aL,aA]at H;obtain⟨B,Jf⟩:∃B,B=ik R.flatten:=⟨_,rfl⟩
   rw[<-Jf]at H hpl |-;obtain⟨V55,Jn,H,hB⟩:=Rel.aT H (λ_=>rfl) ag;have Cg:B.length<65536:=aa;have Kf:=G8 hpo;refine H.wh ?_;clear H;intro w H;refine H.nA ?_;clear H;intro w bm H;refine wk ?_;refine Rel.uW (l:=[82,65,83,49]) Tryz.underlying22 Tryz.underlying5 H rfl ?_;clear H;intro V6 w cg hm H;refine wk ?_;refine H.nA ?_;clear H;intro w HV H;refine wk ?_;replace H:=H.bA (Qy (a:=f) (b:=wd) (c:=ht) aa aa aa);refine Rel.BH (s:=⟨some ⟨bm,0,none⟩,4,4⟩) (x:=⟨some ⟨HV,0,none⟩,3,3⟩) (xs:=jn.flatMap aE) (ys:=[UInt8.ofNat f,UInt8.ofNat wd,UInt8.ofNat ht].flatMap aE) ah rfl rfl rfl rfl rfl ag H (hm.up H.data).cells rfl rfl H.ql.cells rfl (by show 0<3;decide) (by show(4+3)*1<=140737488355328;decide) (by show 4+3<=4611686018427387904;decide) ?_;clear H;intro r1 w sv H _;rw[<-bT]at H;replace hB:=hB.up cg;refine wk ?_;refine(C5 H.data aa ps).use ?_;rintro q w⟨rfl,K⟩;(replace H:=H.az K);have xU:=(hp.up ((((fg.trans aG).trans aQ).trans Jn))).up cg;by_cases h32:f<32
   ·have mE:gD f aH=sG aH:=by unfold gD;rw[if_pos h32]
    rw[decide_eq_true h32];refine wk ?_;refine(I4 H.data xU hpo.le).use ?_;rintro q w⟨r2,rfl,K⟩;(replace H:=Rel.call H K);simp only[aL,aA]at H;refine wk ?_;rw[<-mE]at H;refine Rel.dD (xs:=jn++[UInt8.ofNat f,UInt8.ofNat wd,UInt8.ofNat ht]) H (i:=0) rfl (by simp only[aq,av,aI];omega) ?_;clear H;intro r1 w H;simp only[bC]at H;refine wk ?_;rw[iF];refine wk ?_;refine H.nA ?_;clear H;intro w qj H;refine wk ?_;refine H.nA ?_;clear H;intro w wP H;replace H:=H;obtain⟨V7,dQ,H,xD⟩:=H.bt;replace H:=H.bA (c':=[UInt8.ofNat (B.length/256),UInt8.ofNat B.length].flatMap aE) (by rw[hB.len];exact FG Cg);obtain⟨V8,mm,H,xC⟩:=H.bt;obtain⟨V9,jR,H,hh⟩:=Rel.aT H (λ_=>rfl) ag;have hll:aB cZ V9 ⟨some ⟨wP,0,none⟩,3,3⟩ [r1,⟨some ⟨qj,0,none⟩,2,2⟩,rB]:=⟨rfl,aK _,(xD.cells.fa mm).fa jR⟩
    have hpw:Pw ju V9 [r1,⟨some ⟨qj,0,none⟩,2,2⟩,rB] [jn++[UInt8.ofNat f,UInt8.ofNat wd,UInt8.ofNat ht]++gD f aH,[UInt8.ofNat (B.length/256),UInt8.ofNat B.length],B]:=⟨rfl,λk x y hx hy=>by
     match k,hx,hy with
     | 0,hx,hy=>cases hx;cases hy;exact hh
     | 1,hx,hy=>cases hx;cases hy;exact⟨rfl,aK _,xC.cells.fa jR⟩
     | 2,hx,hy=>cases hx;cases hy;exact((hB.up dQ).up mm).up jR
     | k+3,hx,hy=>simp at hx⟩
    refine wk ?_;refine(nf H.data hll hpw (by show 3<=_;decide) (by simp only[ji,ui,aq,av,aI];omega)).use ?_;rintro v w⟨r9,rfl,K⟩;rw[show[jn++[UInt8.ofNat f,UInt8.ofNat wd,UInt8.ofNat ht]++gD f aH,[UInt8.ofNat (B.length/256),UInt8.ofNat B.length],B].flatten=pK f aH wd ht B by simp[pK]]at K;(replace H:=Rel.call H K);simp only[aL,aA]at H;obtain⟨wL,xw,H,xW⟩:=Rel.aT H (λ_=>rfl) ag;refine H.wg ?_;clear H;intro _ w H;refine⟨H.mark ai,λw' gv=>?_⟩;replace H:=H.uG (own':=[.ax b9 [.bool true] 4,.ax b8 [r9.v] 22]) (by repeat (first|exact pO _|refine List.Sublist.cons_cons _ ?_|refine List.Sublist.cons _ ?_|exact uf _)) rfl (by simp;rfl) gv;generalize w'=w at H;refine wk ?_;exact⟨wL,r9,((((((((fg.trans aG).trans aQ).trans Jn)).trans cg).trans dQ).trans mm).trans jR).trans xw,H.sx,rfl,xW⟩
   ·have mE:gD f aH=[]:=by unfold gD;rw[if_neg h32]
    rw[decide_eq_false h32];rw[show jn++[UInt8.ofNat f,UInt8.ofNat wd,UInt8.ofNat ht]=jn++[UInt8.ofNat f,UInt8.ofNat wd,UInt8.ofNat ht]++gD f aH by rw[mE,cm]]at H;refine wk ?_;rw[iF];refine wk ?_;refine H.nA ?_;clear H;intro w qj H;refine wk ?_;refine H.nA ?_;clear H;intro w wP H;replace H:=H;obtain⟨V7,dQ,H,xD⟩:=H.bt;replace H:=H.bA (c':=[UInt8.ofNat (B.length/256),UInt8.ofNat B.length].flatMap aE) (by rw[hB.len];exact FG Cg);obtain⟨V8,mm,H,xC⟩:=H.bt;obtain⟨V9,jR,H,hh⟩:=Rel.aT H (λ_=>rfl) ag;have hll:aB cZ V9 ⟨some ⟨wP,0,none⟩,3,3⟩ [r1,⟨some ⟨qj,0,none⟩,2,2⟩,rB]:=⟨rfl,aK _,(xD.cells.fa mm).fa jR⟩
    have hpw:Pw ju V9 [r1,⟨some ⟨qj,0,none⟩,2,2⟩,rB] [jn++[UInt8.ofNat f,UInt8.ofNat wd,UInt8.ofNat ht]++gD f aH,[UInt8.ofNat (B.length/256),UInt8.ofNat B.length],B]:=⟨rfl,λk x y hx hy=>by
     match k,hx,hy with
     | 0,hx,hy=>cases hx;cases hy;exact hh
     | 1,hx,hy=>cases hx;cases hy;exact⟨rfl,aK _,xC.cells.fa jR⟩
     | 2,hx,hy=>cases hx;cases hy;exact((hB.up dQ).up mm).up jR
     | k+3,hx,hy=>simp at hx⟩
    refine wk ?_;refine(nf H.data hll hpw (by show 3<=_;decide) (by simp only[ji,ui,aq,av,aI];omega)).use ?_;rintro v w⟨r9,rfl,K⟩;rw[show[jn++[UInt8.ofNat f,UInt8.ofNat wd,UInt8.ofNat ht]++gD f aH,[UInt8.ofNat (B.length/256),UInt8.ofNat B.length],B].flatten=pK f aH wd ht B by simp[pK]]at K;(replace H:=Rel.call H K);simp only[aL,aA]at H;obtain⟨wL,xw,H,xW⟩:=Rel.aT H (λ_=>rfl) ag;refine H.wg ?_;clear H;intro _ w H;refine⟨H.mark ai,λw' gv=>?_⟩;replace H:=H.uG (own':=[.ax b9 [.bool true] 4,.ax b8 [r9.v] 22]) (by repeat (first|exact pO _|refine List.Sublist.cons_cons _ ?_|refine List.Sublist.cons _ ?_|exact uf _)) rfl (by simp;rfl) gv;generalize w'=w at H;refine wk ?_;exact⟨wL,r9,((((((((fg.trans aG).trans aQ).trans Jn)).trans cg).trans dQ).trans mm).trans jR).trans xw,H.sx,rfl,xW⟩
  ·rw[decide_eq_false dS,if_neg dS];obtain⟨B,Jf⟩:∃B,B=R.flatten:=⟨_,rfl⟩
   rw[<-Jf]at ko cJ |-;have hB:=ko;obtain⟨rB,Ao⟩:∃rB,rB=r:=⟨_,rfl⟩
   rw[<-Ao]at H hB;have Cg:B.length<65536:=aa;have Kf:=G8 hpo;refine wk ?_;refine H.nA ?_;clear H;intro w bm H;refine wk ?_;refine Rel.uW (l:=[82,65,83,49]) Tryz.underlying22 Tryz.underlying5 H rfl ?_;clear H;intro V6 w cg hm H;refine wk ?_;refine H.nA ?_;clear H;intro w HV H;refine wk ?_;replace H:=H.bA (Qy (a:=f) (b:=wd) (c:=ht) aa aa aa);refine Rel.BH (s:=⟨some ⟨bm,0,none⟩,4,4⟩) (x:=⟨some ⟨HV,0,none⟩,3,3⟩) (xs:=jn.flatMap aE) (ys:=[UInt8.ofNat f,UInt8.ofNat wd,UInt8.ofNat ht].flatMap aE) ah rfl rfl rfl rfl rfl ag H (hm.up H.data).cells rfl rfl H.ql.cells rfl (by show 0<3;decide) (by show(4+3)*1<=140737488355328;decide) (by show 4+3<=4611686018427387904;decide) ?_;clear H;intro r1 w sv H _;rw[<-bT]at H;replace hB:=hB.up cg;refine wk ?_;refine(C5 H.data aa ps).use ?_;rintro q w⟨rfl,K⟩;(replace H:=H.az K);have xU:=(hp.up (((fg.trans aG).trans aQ))).up cg;by_cases h32:f<32
   ·have mE:gD f aH=sG aH:=by unfold gD;rw[if_pos h32]
    rw[decide_eq_true h32];refine wk ?_;refine(I4 H.data xU hpo.le).use ?_;rintro q w⟨r2,rfl,K⟩;(replace H:=Rel.call H K);simp only[aL,aA]at H;refine wk ?_;rw[<-mE]at H;refine Rel.dD (xs:=jn++[UInt8.ofNat f,UInt8.ofNat wd,UInt8.ofNat ht]) H (i:=0) rfl (by simp only[aq,av,aI];omega) ?_;clear H;intro r1 w H;simp only[bC]at H;refine wk ?_;rw[iF];refine wk ?_;refine H.nA ?_;clear H;intro w qj H;refine wk ?_;refine H.nA ?_;clear H;intro w wP H;replace H:=H;obtain⟨V7,dQ,H,xD⟩:=H.bt;replace H:=H.bA (c':=[UInt8.ofNat (B.length/256),UInt8.ofNat B.length].flatMap aE) (by rw[hB.len];exact FG Cg);obtain⟨V8,mm,H,xC⟩:=H.bt;obtain⟨V9,jR,H,hh⟩:=Rel.aT H (λ_=>rfl) ag;have hll:aB cZ V9 ⟨some ⟨wP,0,none⟩,3,3⟩ [r1,⟨some ⟨qj,0,none⟩,2,2⟩,rB]:=⟨rfl,aK _,(xD.cells.fa mm).fa jR⟩
    have hpw:Pw ju V9 [r1,⟨some ⟨qj,0,none⟩,2,2⟩,rB] [jn++[UInt8.ofNat f,UInt8.ofNat wd,UInt8.ofNat ht]++gD f aH,[UInt8.ofNat (B.length/256),UInt8.ofNat B.length],B]:=⟨rfl,λk x y hx hy=>by
     match k,hx,hy with
     | 0,hx,hy=>cases hx;cases hy;exact hh
     | 1,hx,hy=>cases hx;cases hy;exact⟨rfl,aK _,xC.cells.fa jR⟩
     | 2,hx,hy=>cases hx;cases hy;exact((hB.up dQ).up mm).up jR
     | k+3,hx,hy=>simp at hx⟩
    refine wk ?_;refine(nf H.data hll hpw (by show 3<=_;decide) (by simp only[ji,ui,aq,av,aI];omega)).use ?_;rintro v w⟨r9,rfl,K⟩;rw[show[jn++[UInt8.ofNat f,UInt8.ofNat wd,UInt8.ofNat ht]++gD f aH,[UInt8.ofNat (B.length/256),UInt8.ofNat B.length],B].flatten=pK f aH wd ht B by simp[pK]]at K;(replace H:=Rel.call H K);simp only[aL,aA]at H;obtain⟨wL,xw,H,xW⟩:=Rel.aT H (λ_=>rfl) ag;refine H.wg ?_;clear H;intro _ w H;refine⟨H.mark ai,λw' gv=>?_⟩;replace H:=H.uG (own':=[.ax b9 [.bool true] 4,.ax b8 [r9.v] 22]) (by repeat (first|exact pO _|refine List.Sublist.cons_cons _ ?_|refine List.Sublist.cons _ ?_|exact uf _)) rfl (by simp;rfl) gv;generalize w'=w at H;refine wk ?_;exact⟨wL,r9,(((((((fg.trans aG).trans aQ)).trans cg).trans dQ).trans mm).trans jR).trans xw,H.sx,rfl,xW⟩
   ·have mE:gD f aH=[]:=by unfold gD;rw[if_neg h32]
    rw[decide_eq_false h32];rw[show jn++[UInt8.ofNat f,UInt8.ofNat wd,UInt8.ofNat ht]=jn++[UInt8.ofNat f,UInt8.ofNat wd,UInt8.ofNat ht]++gD f aH by rw[mE,cm]]at H;refine wk ?_;rw[iF];refine wk ?_;refine H.nA ?_;clear H;intro w qj H;refine wk ?_;refine H.nA ?_;clear H;intro w wP H;replace H:=H;obtain⟨V7,dQ,H,xD⟩:=H.bt;replace H:=H.bA (c':=[UInt8.ofNat (B.length/256),UInt8.ofNat B.length].flatMap aE) (by rw[hB.len];exact FG Cg);obtain⟨V8,mm,H,xC⟩:=H.bt;obtain⟨V9,jR,H,hh⟩:=Rel.aT H (λ_=>rfl) ag;have hll:aB cZ V9 ⟨some ⟨wP,0,none⟩,3,3⟩ [r1,⟨some ⟨qj,0,none⟩,2,2⟩,rB]:=⟨rfl,aK _,(xD.cells.fa mm).fa jR⟩
    have hpw:Pw ju V9 [r1,⟨some ⟨qj,0,none⟩,2,2⟩,rB] [jn++[UInt8.ofNat f,UInt8.ofNat wd,UInt8.ofNat ht]++gD f aH,[UInt8.ofNat (B.length/256),UInt8.ofNat B.length],B]:=⟨rfl,λk x y hx hy=>by
     match k,hx,hy with
     | 0,hx,hy=>cases hx;cases hy;exact hh
     | 1,hx,hy=>cases hx;cases hy;exact⟨rfl,aK _,xC.cells.fa jR⟩
     | 2,hx,hy=>cases hx;cases hy;exact((hB.up dQ).up mm).up jR
     | k+3,hx,hy=>simp at hx⟩
    refine wk ?_;refine(nf H.data hll hpw (by show 3<=_;decide) (by simp only[ji,ui,aq,av,aI];omega)).use ?_;rintro v w⟨r9,rfl,K⟩;rw[show[jn++[UInt8.ofNat f,UInt8.ofNat wd,UInt8.ofNat ht]++gD f aH,[UInt8.ofNat (B.length/256),UInt8.ofNat B.length],B].flatten=pK f aH wd ht B by simp[pK]]at K;(replace H:=Rel.call H K);simp only[aL,aA]at H;obtain⟨wL,xw,H,xW⟩:=Rel.aT H (λ_=>rfl) ag;refine H.wg ?_;clear H;intro _ w H;refine⟨H.mark ai,λw' gv=>?_⟩;replace H:=H.uG (own':=[.ax b9 [.bool true] 4,.ax b8 [r9.v] 22]) (by repeat (first|exact pO _|refine List.Sublist.cons_cons _ ?_|refine List.Sublist.cons _ ?_|exact uf _)) rfl (by simp;rfl) gv;generalize w'=w at H;refine wk ?_;exact⟨wL,r9,(((((((fg.trans aG).trans aQ)).trans cg).trans dQ).trans mm).trans jR).trans xw,H.sx,rfl,xW⟩
 ·clear H;rintro D c w i V4 aG⟨rfl,hno⟩H;simp only[aL,aA]at H;rw[hno];refine wk ?_;refine⟨H.mark ai,λw' gv=>?_⟩;replace H:=H.uG (own':=[.ax b9 [.bool false] 4,.ax b8 [.slice none 0 0] 22]) (by repeat (first|exact pO _|refine List.Sublist.cons_cons _ ?_|refine List.Sublist.cons _ ?_|exact uf _)) rfl (by simp;rfl) gv;generalize w'=w at H;refine wk ?_;exact⟨V4,⟨none,0,0⟩,fg.trans aG,H.sx,rfl⟩
end
end Go.Proofs.YtmoiobegbpkkbaaGreatDoor
