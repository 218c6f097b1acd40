import Derived.Test.YtmoiobegbpkkbaaGreatDoorTAD
import Derived.Lib.ItoaMem
import Derived.Lib.ItoaLen
import Derived.Lib.AtoiAllCases
open Bool renaming and_eq_true->eD,or_eq_true->rY,eq_false_iff->ah4
open Go.Value renaming int->bO,bool->ic
open Int renaming toNat_natCast->jr,toNat->gR,natCast_mul->so
open List renaming range->bZ,getElem?_map->ib,getElem?_range->sd,mem_iff_getElem?->BP,getElem?_zipIdx->OE,all_eq_true->bc,contains_iff_mem->sf,getElem?_eq_none->lO,mem_cons->bP,append_nil->aZ,length_nil->aK,take_append_drop->eW,getElem?_eq_some_iff->dH,length_cons->aq,zipIdx_cons->BV,drop_drop->gK,append_assoc->bj,cons_append->bb,nil_append->aL,mem_map->cJ,length_append->ak,length_take->bg,length_drop->aU,length_singleton->bT,drop_left->kN,length->bU,flatMap_cons->bD,mem_append->cc,mem_flatMap->uY,eq_nil_of_length_eq_zero->dt,replicate->eP,mem_of_getElem?->jX,pairwise_append->BN,getElem_mem->bS,set_cons_succ->fa,not_mem_nil->tA,take_succ_eq_append_getElem->bK,drop_succ_cons->wG,getElem?_append_left->qx,flatMap_nil->eL,mem_singleton->cz,length_pos_iff->iC,getElem?_eq_getElem->bz,flatMap_map->se,map_cons->fO,map_congr_left->qz,tail_cons->mf,set_cons_zero->bH,flatten_cons->pC,length_map->aW,map_append->dU,ext_getElem?->zc,range_succ_eq_map->E8,map_map->pD,map_id->ze,append_eq_nil_iff->BT,drop_one->zf,length_range->gq,mem_iff_getElem->Ji,pairwise_map->ah5,takeWhile_cons->ah7,takeWhile_append_dropWhile->pE,singleton_append->zh
open Nat renaming le_refl->aQ,add_comm->sq,add_zero->ln,add_assoc->wM,mul_comm->lP,zero_add->dR,zero_le->cE,mul_le_mul->mg
open Option renaming map_some->gQ,map_eq_some_iff->iB
open UInt8 renaming ofNat->aD,toNat_ofNat'->kt,toNat_inj->bL,ofNat_toNat->zg
namespace Go.Proofs.YtmoiobegbpkkbaaGreatDoor
open Go Go.RowKit
set_option maxRecDepth 100000
set_option maxHeartbeats 8000000
variable{V W:ad}
variable{l X x r b B t lb:ab}{k n f size fl i:Nat}{wd ht:Int}{α:Type}{d s c:UInt8}{R:bf}{v:ao}{Z:au}{o:Bool}{p:UInt8->Bool}
theorem XO(hk:k<l.length)(h9:k<129)(h:dM l=k+iE (l.headD 0) (129-k) (l.drop k)):dM l=if l[k].toNat=(l[0]'aa).toNat then k+1+iE (l.headD 0) (129-(k+1)) (l.drop (k+1))else k:=by
 obtain⟨m,hm⟩:∃m,129-k=m+1:=⟨128-k,aa⟩
 rw[hm,ajv _ _ hk]at h;rw[show 129-(k+1)=m by omega];have e:l.headD 0=l[0]'aa:=by cases l with|nil=>simp at hk|cons y l=>rfl
 by_cases hx:l[k]=l.headD 0
 ·rw[ag hx]at h;rw[ag (by rw[hx,e])];omega
 rw[ae hx]at h;rw[ae (λq=>hx (by rw[e];exact bL.1 q))];omega
theorem XQ(hV:Sub V W){s:Sl}{l:ab}(hs:aF V s l)(hl:l.length<=1099511627776):aB 279 [s.v] W λv w'=>v=iv ((dM l:Nat):Int)/\Rel W V [] V w':=by
 have H:=aG hV;have hlen:=hs.len;refine eV Tryz.func279 25 [0,2,3,21] ?_;refine wk ?_;refine aP (S:=Nat) al [0,2] (λk=>[(0,s.v),(3,iv k)]) (λk w'=>k<=l.length/\k<=129/\dM l=k+iE (l.headD 0) (129-k) (l.drop k)/\Rel W V [] V w') (λk _=>l.length-k) 0 ?_;conv=>whnf
 refine⟨sB,⟨aa,aa,by show dM l=0+iE (l.headD 0) 129 (l.drop 0);rw[dR,List.drop_zero];rfl,H⟩,?_⟩;clear H;rintro k w⟨hk,h9,hr,H⟩;by_cases hlt:k<l.length;rotate_left
 ·rw[XM _ _ aa]at hr;refine wk ?_;refine dV 2 [] [0,1,2,3,4,5,6,7,8,9,10,11,12,13,14,15,16,17] H ?_;intro w H;refine wk ?_;exact⟨ax (λn:Nat=>iv n) (hr.trans (ln k)).symm,H.sx⟩
 by_cases LY:k<129;rotate_left
 ·rw[show 129-k=0 by omega]at hr;simp only[iE]at hr;refine wk ?_;refine dV 2 [] [0,1,2,3,4,5,6,7,8,9,10,11,12,13,14,15,16,17] H ?_;intro w H;refine wk ?_;exact⟨ax (λn:Nat=>iv n) (hr.trans (ln k)).symm,H.sx⟩
 have hr:=XO hlt LY hr;obtain⟨p1,c1⟩:=hs.aR (g:=bv) (λ_=>rfl) hlt;obtain⟨p0,c0⟩:=hs.aR (g:=bv) (λ_=>rfl) (show 0<l.length by omega);by_cases he:l[k].toNat=l[0].toNat
 ·rw[ag he]at hr;refine wk ?_;refine dV 2 [] [0,1,2,3,4,5,6,7,8,9,10,11,12,13,14,15,16,17] H ?_;intro w H;refine wk ?_;exact⟨sB,k+1,sB,⟨aa,aa,hr,H⟩,aa⟩
 rw[ae he]at hr;refine wk ?_;refine dV 2 [] [0,1,2,3,4,5,6,7,8,9,10,11,12,13,14,15,16,17] H ?_;intro w H;refine wk ?_;exact⟨ax (λn:Nat=>iv n) hr.symm,H.sx⟩
theorem aF.rest{q:Sl}(h:aF V q X){k:Nat}(hk:k<=X.length):aF V ⟨bo q.a k q.cap 1,q.len-k,q.cap-k⟩ (X.drop k):=by have:=aA.sub h (n:=1) (λ_=>rfl) (a:=k) (b:=X.length) hk (aQ _);rw[List.take_length]at this;rw[h.len];exact this
theorem aF.head{q:Sl}(h:aF V q X){k:Nat}(hk:k<=X.length):aF V ⟨bo q.a 0 q.cap 1,k,q.cap⟩ (X.take k):=aA.sub h (n:=1) (λ_=>rfl) (a:=0) (b:=k) (cE _) hk
theorem Wi(hn:n<=129){y:UInt8}(hy:y=X.headD 0):[bO .u8 (wr .u8 (126+(n:Int))),bv y]=[aD (126+n),X.headD 0].flatMap aI:=by
 have e1:wr .u8 (126+(n:Int))=((126+n:Nat):Int):=by show(126+(n:Int))%256=_;omega
 have e2:(aD (126+n)).toNat=126+n:=by rw[kt];omega
 simp only[bD,eL,aI,bv,bb,aL,e1,e2,hy]
theorem It(h1:1<=k)(h2:k<=128):[bO .u8 (wr .u8 ((k:Int)-1))]=[aD (k-1)].flatMap aI:=by
 have e1:wr .u8 ((k:Int)-1)=((k-1:Nat):Int):=by show((k:Int)-1)%256=_;omega
 have e2:(aD (k-1)).toNat=k-1:=by rw[kt];omega
 simp only[bD,eL,aI,bv,aZ,e1,e2]
theorem ahf(hV:Sub V W){s:Sl}{l:ab}(hs:aF V s l)(hl:l.length<=100000000):aB 219 [s.v] W λv w'=>∃r:Sl,v=r.v/\Rel W V [.row r 5 1 ((gn l).flatMap aI)] V w':=by
 have H:=aG hV;have hlen:=hs.len;refine eV Tryz.func219 56 [0,2,3,4,5,8,12,39] ?_;refine wk ?_;replace H:=H.br 5 1;refine aP (S:=Sl×ab×Sl×ab) al [2] (λk=>[(0,k.1.v),(3,k.2.2.1.v)]) (λk w'=>aF V k.1 k.2.1/\gn l=k.2.2.2++gn k.2.1/\k.2.1.length<=l.length/\k.2.2.2.length+2*k.2.1.length<=2*l.length/\Rel W V [.row k.2.2.1 5 1 (k.2.2.2.flatMap aI)] V w') (λk _=>k.2.1.length) (s,l,⟨none,0,0⟩,[]) ?_;conv=>whnf
 refine⟨sB,⟨hs,rfl,aQ _,ah,H⟩,?_⟩;clear H;rintro⟨q,X,r,O⟩w⟨hq,hp,hX,hO,H⟩;dsimp only at hq hp hX hO H |-;have cD:=hq.len;have Bd:=hq.cap;by_cases h0:X.length=0
 ·rw[dt h0,EU,aZ]at hp;refine wk ?_;exact⟨r,rfl,by rw[hp];exact H⟩
 have hne:X≠[]:=λh=>h0 (by rw[h];rfl);obtain⟨p0,c0⟩:=hq.aR (g:=bv) (λ_=>rfl) (show 0<X.length by omega);have c0h:X[0]'(by omega)=X.headD 0:=by cases X with|nil=>exact absurd rfl hne|cons y l=>rfl
 refine wk ?_;refine H.us (XQ H.data hq aa) ?_;intro w H;have hr:=JI X;have l8:=ajw hne;by_cases h3:3<=dM X
 ·have hf:=hq.rest hr.2;refine H.wn ?_;intro w _ H;refine wk ?_;replace H:=H.cB (Wi hr.1 c0h);replace H:=H.gh (n:=2) (e:=5) (sz:=1) rfl (by simp[maxLen]);refine Rel.eB H (i:=0) rfl (by simp only[aq,aK];omega) ?_;intro r1 w H;simp only[bH]at H;refine wk ?_;exact⟨sB,(_,X.drop (dM X),r1,O++[aD (126+dM X),X.headD 0]),sB,⟨hf,by rw[hp,IQ h3];simp,by rw[aU];omega,by simp only[ak,aU,aq,aK];omega,H⟩,by rw[aU];omega⟩
 have uD:=Is hne;refine wk ?_;refine aP (S:=Nat) al [0,2,3,4,8,12] (λk=>[(0,q.v),(3,r.v),(5,iv k)]) (λk w'=>1<=k/\k<=X.length/\k<=128/\iQ X=k+jK (128-k) (X.drop k)/\Rel W V [.row r 5 1 (O.flatMap aI)] V w') (λk _=>X.length-k) 1 ?_;conv=>whnf
 refine⟨sB,⟨aa,aa,aa,rfl,H⟩,?_⟩;clear H;rintro k w⟨iN,gk,HZ,oo,H⟩;dsimp only at iN gk HZ oo H |-;by_cases hlt:k<X.length;rotate_left
 ·rw[NO _ aa]at oo;refine wk ?_;refine dX (id:=10) V [] [] [0,1,2,3,6,7,8,4,5,9,10] [(4,[]),(5,[4]),(9,[4,5])] H ?_;intro w H;repeat' (refine wk ?_;(first|refine Kv.go H ?_|refine Kv.go2 H (by assumption) ?_|refine jI ?_|refine And.intro ?_ ?_|(refine H.nA ?_;intro w _ H)))
  refine wk ?_;replace H:=H.cB (It iN HZ);replace H:=H.gh (n:=1) (e:=5) (sz:=1) rfl (by simp[maxLen]);refine Rel.eB H (i:=0) rfl (by simp only[aq,aK];omega) ?_;intro r1 w H;simp only[bH]at H;repeat' (refine wk ?_;(first|refine Kv.go H ?_|refine Kv.go2 H (by assumption) ?_|refine jI ?_|refine And.intro ?_ ?_|(refine H.nA ?_;intro w _ H)))
  refine wk ?_;refine Rel.jO H (i:=0) rfl (hq.head gk) (by simp only[ak,aq,aK,bg];omega) ?_;intro r2 w H;simp only[bH]at H;repeat' (refine wk ?_;(first|refine Kv.go H ?_|refine Kv.go2 H (by assumption) ?_|refine jI ?_|refine And.intro ?_ ?_|(refine H.nA ?_;intro w _ H)))
  ·trivial
  have hf:=hq.rest gk;exact⟨(_,X.drop k,r2,O++[aD (k-1)]++X.take k),sB,⟨hf,by rw[hp,BB hne aa,oo];simp,by rw[aU];omega,by simp only[ak,aU,aq,aK,bg];omega,H⟩,by rw[aU];omega⟩
 by_cases h128:k<128;rotate_left
 ·rw[show 128-k=0 by omega]at oo;simp only[jK]at oo;refine wk ?_;refine dX (id:=10) V [] [] [0,1,2,3,6,7,8,4,5,9,10] [(4,[]),(5,[4]),(9,[4,5])] H ?_;intro w H;repeat' (refine wk ?_;(first|refine Kv.go H ?_|refine Kv.go2 H (by assumption) ?_|refine jI ?_|refine And.intro ?_ ?_|(refine H.nA ?_;intro w _ H)))
  refine wk ?_;replace H:=H.cB (It iN HZ);replace H:=H.gh (n:=1) (e:=5) (sz:=1) rfl (by simp[maxLen]);refine Rel.eB H (i:=0) rfl (by simp only[aq,aK];omega) ?_;intro r1 w H;simp only[bH]at H;repeat' (refine wk ?_;(first|refine Kv.go H ?_|refine Kv.go2 H (by assumption) ?_|refine jI ?_|refine And.intro ?_ ?_|(refine H.nA ?_;intro w _ H)))
  refine wk ?_;refine Rel.jO H (i:=0) rfl (hq.head gk) (by simp only[ak,aq,aK,bg];omega) ?_;intro r2 w H;simp only[bH]at H;repeat' (refine wk ?_;(first|refine Kv.go H ?_|refine Kv.go2 H (by assumption) ?_|refine jI ?_|refine And.intro ?_ ?_|(refine H.nA ?_;intro w _ H)))
  ·trivial
  have hf:=hq.rest gk;exact⟨(_,X.drop k,r2,O++[aD (k-1)]++X.take k),sB,⟨hf,by rw[hp,BB hne aa,oo];simp,by rw[aU];omega,by simp only[ak,aU,aq,aK,bg];omega,H⟩,by rw[aU];omega⟩
 have hkr:=hq.rest gk;rw[show 128-k=127-k+1 by omega,afE _ hlt]at oo;refine wk ?_;refine H.us (XQ H.data hkr (by rw[aU];omega)) ?_;intro w H;by_cases h4:3<=dM (X.drop k)
 ·rw[ag h4]at oo;refine wk ?_;refine dX (id:=10) V [] [] [0,1,2,3,6,7,8,4,5,9,10] [(4,[]),(5,[4]),(9,[4,5])] H ?_;intro w H;repeat' (refine wk ?_;(first|refine Kv.go H ?_|refine Kv.go2 H (by assumption) ?_|refine jI ?_|refine And.intro ?_ ?_|(refine H.nA ?_;intro w _ H)))
  refine wk ?_;replace H:=H.cB (It iN HZ);replace H:=H.gh (n:=1) (e:=5) (sz:=1) rfl (by simp[maxLen]);refine Rel.eB H (i:=0) rfl (by simp only[aq,aK];omega) ?_;intro r1 w H;simp only[bH]at H;repeat' (refine wk ?_;(first|refine Kv.go H ?_|refine Kv.go2 H (by assumption) ?_|refine jI ?_|refine And.intro ?_ ?_|(refine H.nA ?_;intro w _ H)))
  refine wk ?_;refine Rel.jO H (i:=0) rfl (hq.head gk) (by simp only[ak,aq,aK,bg];omega) ?_;intro r2 w H;simp only[bH]at H;repeat' (refine wk ?_;(first|refine Kv.go H ?_|refine Kv.go2 H (by assumption) ?_|refine jI ?_|refine And.intro ?_ ?_|(refine H.nA ?_;intro w _ H)))
  ·trivial
  have hf:=hq.rest gk;exact⟨(_,X.drop k,r2,O++[aD (k-1)]++X.take k),sB,⟨hf,by rw[hp,BB hne aa,oo];simp,by rw[aU];omega,by simp only[ak,aU,aq,aK,bg];omega,H⟩,by rw[aU];omega⟩
 rw[ae h4]at oo;refine wk ?_;exact⟨sB,k+1,sB,⟨aa,aa,aa,by rw[show 128-(k+1)=127-k by omega];omega,H⟩,aa⟩
abbrev ml(f:Nat)(p:Sl):aC:=[iv (f:Int),p.v]
def bitsOf(f:Nat):Nat:=if f/16=0 then 1 else if f/16=1 then 4 else if f/16=2 then 8 else 24
def rowOf(f w:Nat):Nat:=(w*bitsOf f+7)/8
theorem Ak(f:Nat):1<=bitsOf f/\bitsOf f<=24:=by
 unfold bitsOf;split
 ·decide
 split
 ·decide
 split<;>decide
theorem and_1:∀f:Nat,f<256->cI .and .i64 (f:Int) 1=((f%2:Nat):Int):=by decide +kernel
theorem and_2:∀f:Nat,f<256->cI .and .i64 (f:Int) 2=((2*(f/2%2):Nat):Int):=by decide +kernel
theorem Lr(hV:Sub V W)(c i:Int):aB 131 [iv c,iv i] W λv w'=>v=kV c i/\Rel W V [] V w':=by have H:=aG hV;refine eV Tryz.func131 8 [0,1,4] ?_;refine H.wg ?_;intro _ _ w H;exact H.sx
theorem G3(hV:Sub V W){f:Nat}(hf:f<256)(p:Sl):aB 139 [.agg (ml f p).toArray] W λv w'=>v=iv ((f/16:Nat):Int)/\Rel W V [] V w':=by have H:=aG hV;refine eV Tryz.func139 6 [0,1,2] ?_;refine H.wn ?_;intro w b1 H;refine wk ?_;exact H.sx
theorem U5(hV:Sub V W){f:Nat}(hf:f<256)(p:Sl):aB 142 [.agg (ml f p).toArray] W λv w'=>v=.bool (decide (f<32))/\Rel W V [] V w':=by have H:=aG hV;refine eV Tryz.func142 6 [0,1,2] ?_;refine H.wn ?_;intro w b1 H;refine wk ?_;refine H.us (G3 H.data aa p) ?_;intro w H;refine wk ?_;exact⟨ax ic (decide_eq_decide.2 aa),H.sx⟩
theorem Q7(hV:Sub V W){f:Nat}(hf:f<64)(p:Sl):aB 140 [.agg (ml f p).toArray] W λv w'=>v=iv ((bitsOf f:Nat):Int)/\Rel W V [] V w':=by
 have H:=aG hV;refine eV Tryz.func140 7 [0,1,2] ?_;refine H.wn ?_;intro w b1 H;refine wk ?_;refine bE.of (v:=.agg #[iv 1,iv 4,iv 8,iv 24]) (w':=w) av ?_;refine wk ?_;refine H.us (G3 H.data aa p) ?_;intro w H;unfold bitsOf;obtain⟨d,hd⟩:∃d,d=f/16:=⟨_,rfl⟩
 rw[<-hd];have:d=0\/d=1\/d=2\/d=3:=aa;clear hd;rcases this with rfl|rfl|rfl|rfl
 all_goals
  refine wk ?_;exact H.sx
theorem ajm(hV:Sub V W){f:Nat}(hf:f<64)(p:Sl){wd:Nat}(hw:wd<=64):aB 272 [.agg (ml f p).toArray,iv (wd:Int)] W λv w'=>v=iv ((rowOf f wd:Nat):Int)/\Rel W V [] V w':=by have H:=aG hV;have hb:=Ak f;have hm:wd*bitsOf f<=64*24:=mg hw hb.2;have MS:(wd:Int)*((bitsOf f:Nat):Int)=((wd*bitsOf f:Nat):Int):=(so _ _).symm;refine eV Tryz.func272 11 [0,1,2,4] ?_;refine H.wn ?_;intro w b1 H;refine wk (H.us (Q7 H.data hf p) ?_);intro w H;refine wk ?_;exact H.sx
theorem adL(hV:Sub V W){f:Nat}(hf:f<256)(p:Sl):aB 141 [.agg (ml f p).toArray,iv 1] W λv w'=>v=.bool (decide (f%2=1))/\Rel W V [] V w':=by have H:=aG hV;refine eV Tryz.func141 10 [0,1,2,4] ?_;refine H.wn ?_;intro w b1 H;refine wk ?_;rw[and_1 f hf];refine wk ?_;exact⟨by first|exact ax ic (decide_eq_decide.2 aa)|(rw[<-decide_not];exact ax ic (decide_eq_decide.2 aa)),H.sx⟩
theorem adM(hV:Sub V W){f:Nat}(hf:f<256)(p:Sl):aB 141 [.agg (ml f p).toArray,iv 2] W λv w'=>v=.bool (decide (f/2%2=1))/\Rel W V [] V w':=by have H:=aG hV;refine eV Tryz.func141 10 [0,1,2,4] ?_;refine H.wn ?_;intro w b1 H;refine wk ?_;rw[and_2 f hf];refine wk ?_;exact⟨by first|exact ax ic (decide_eq_decide.2 aa)|(rw[<-decide_not];exact ax ic (decide_eq_decide.2 aa)),H.sx⟩
theorem al7(f:Nat)(w:ad)(hf:f<256):aB 209 [iv (f:Int)] w λv w'=>v=.bool (decide (f<64/\f%16<4))/\w=w':=by
 refine eV Tryz.func209 11 [0,2] ?_;by_cases h1:f<64
 ·refine wk ?_;exact⟨ax ic (decide_eq_decide.2 aa),rfl⟩
 refine wk ?_;exact⟨(ax ic (bA (λh=>h1 h.1))).symm,rfl⟩
theorem ac6(f:Nat)(w:ad)(hf:f<256):aB 81 [iv (f:Int)] w λv w'=>v=.bool (decide (f<64/\f%16<4))/\w=w':=by
 refine eV Tryz.func81 10 [0,2] ?_;refine wk ((gd (f:Int) 0 63 w).use ?_);rintro q w'⟨rfl,rfl⟩;by_cases h1:f<64
 ·rw[bw (show(0:Int)<=f/\(f:Int)<=63 by omega)];refine wk ?_;exact⟨ax ic (decide_eq_decide.2 aa),rfl⟩
 rw[bA (show ¬((0:Int)<=f/\(f:Int)<=63)by omega)];refine wk ?_;exact⟨(ax ic (bA (λh=>h1 h.1))).symm,rfl⟩
theorem ajx{a:Nat}(hk:a+k<l.length)(h9:k<129)(h:dM (l.drop a)=k+iE ((l.drop a).headD 0) (129-k) (l.drop (a+k))):dM (l.drop a)=if l[a+k].toNat=(l[a]'aa).toNat then k+1+iE ((l.drop a).headD 0) (129-(k+1)) (l.drop (a+(k+1)))else k:=by have:=XO (l:=l.drop a) (k:=k) (by rw[aU];omega) h9 (by rw[gK];exact h);simp only[List.getElem_drop,gK,ln]at this;exact this
theorem acQ(hV:Sub V W){s:Sl}{l:ab}(hs:aF V s l)(hl:l.length<=1099511627776){a:Nat}(ha:a<l.length):aB 173 [s.v,iv (a:Int)] W λv w'=>v=iv ((dM (l.drop a):Nat):Int)/\Rel W V [] V w':=by
 have H:=aG hV;have hlen:=hs.len;refine eV Tryz.func173 32 [0,1,4,5,28] ?_;refine wk ?_;refine aP (S:=Nat) al [0,1,4] (λk=>[(0,s.v),(1,iv a),(5,iv k)]) (λk w'=>a+k<=l.length/\k<=129/\dM (l.drop a)=k+iE ((l.drop a).headD 0) (129-k) (l.drop (a+k))/\Rel W V [] V w') (λk _=>l.length-k) 0 ?_;conv=>whnf
 refine⟨sB,⟨aa,aa,by show dM (l.drop a)=0+iE ((l.drop a).headD 0) 129 (l.drop (a+0));rw[dR];rfl,H⟩,?_⟩;clear H;rintro k w⟨hk,h9,hr,H⟩;have Mw:(a:Int)+(k:Int)=((a+k:Nat):Int):=(Int.natCast_add a k).symm;by_cases LY:k<129;rotate_left
 ·rw[show 129-k=0 by omega]at hr;simp only[iE]at hr;refine wk ?_;refine dV 2 [] [0,1,2,3,4,5,6,7,8,9,10,11,12,13,14,15,16,17,18,19,20,21,22] H ?_;intro w H;refine wk ?_;exact⟨ax (λn:Nat=>iv n) (hr.trans (ln k)).symm,H.sx⟩
 by_cases hlt:a+k<l.length;rotate_left
 ·rw[XM _ _ aa]at hr;refine wk ?_;refine dV 2 [] [0,1,2,3,4,5,6,7,8,9,10,11,12,13,14,15,16,17,18,19,20,21,22] H ?_;intro w H;refine wk ?_;exact⟨ax (λn:Nat=>iv n) (hr.trans (ln k)).symm,H.sx⟩
 have hr:=ajx hlt LY hr;obtain⟨p1,c1⟩:=hs.aR (g:=bv) (λ_=>rfl) hlt;obtain⟨p0,c0⟩:=hs.aR (g:=bv) (λ_=>rfl) ha;by_cases he:l[a+k].toNat=l[a].toNat
 ·rw[ag he]at hr;refine wk ?_;refine dV 2 [] [0,1,2,3,4,5,6,7,8,9,10,11,12,13,14,15,16,17,18,19,20,21,22] H ?_;intro w H;refine wk ?_;exact⟨sB,k+1,sB,⟨aa,aa,hr,H⟩,aa⟩
 rw[ae he]at hr;refine wk ?_;refine dV 2 [] [0,1,2,3,4,5,6,7,8,9,10,11,12,13,14,15,16,17,18,19,20,21,22] H ?_;intro w H;refine wk ?_;exact⟨ax (λn:Nat=>iv n) hr.symm,H.sx⟩
theorem NP{x:Nat}(h1:1<=n)(h2:n<=128)(hx:x=n):[bO .u8 (wr .u8 ((x:Int)-1))]=[aD (n-1)].flatMap aI:=by rw[hx];exact It h1 h2
theorem ahg(hV:Sub V W){s:Sl}{l:ab}(hs:aF V s l)(hl:l.length<=100000000):aB 85 [s.v] W λv w'=>∃r:Sl,v=r.v/\Rel W V [.row r 5 1 ((gn l).flatMap aI)] V w':=by
 have H:=aG hV;have hlen:=hs.len;refine eV Tryz.func85 72 [0,2,3,4,5,6,10,25,36,61] ?_;refine wk ?_;replace H:=(H.br 5 1).br 5 1;refine aP (S:=Nat×Sl×ab×Sl×ab) al [0,2,61] (λk=>[(0,s.v),(3,k.2.1.v),(4,k.2.2.2.1.v),(5,iv k.1)]) (λk w'=>k.1<=l.length/\gn l=k.2.2.1++uU k.2.2.2.2 (l.drop k.1)/\k.2.2.2.2.length<=128/\k.2.2.1.length+2*k.2.2.2.2.length<=2*k.1/\Rel W V [.row k.2.2.2.1 5 1 (k.2.2.2.2.flatMap aI),.row k.2.1 5 1 (k.2.2.1.flatMap aI)] V w') (λk _=>2*(l.length-k.1)+min 1 k.2.2.2.2.length) (0,⟨none,0,0⟩,[],⟨none,0,0⟩,[]) ?_;conv=>whnf
 refine⟨sB,⟨ah,by simp[yV],ah,ah,H⟩,?_⟩;clear H;rintro⟨p,ro,O,rl,L⟩w⟨hp,hpk,Mb,hO,H⟩;dsimp only at hp hpk Mb hO H |-;have hrl:rl.len=L.length:=H.dW (i:=0) rfl (λ_=>rfl) ai;by_cases hlt:p<l.length;rotate_left
 ·rw[List.drop_eq_nil_of_le aa]at hpk;by_cases hL:L=[]
  ·subst hL;rw[yV,EU,aZ]at hpk;rw[aK]at hrl;refine wk ?_;exact⟨ro,rfl,by rw[hpk];exact H.sx⟩
  have Tz:0<L.length:=iC.2 hL;rw[Wg hL (.inr (.inl rfl)) Mb,EU,aZ]at hpk;refine H.wg ?_;intro _ w H;replace H:=H.cB (NP (n:=L.length) (x:=rl.len) aa aa hrl);replace H:=H.gh (n:=1) (e:=5) (sz:=1) rfl (by simp[maxLen]);refine Rel.eB H (i:=1) rfl (by simp only[aq,aK];omega) ?_;intro r1 w H;simp only[fa,bH]at H;refine wk ?_;refine Rel.eB H (i:=0) rfl (by simp only[ak,aq,aK];omega) ?_;intro r2 w H;simp only[bH]at H;refine wk ?_;exact⟨r2,rfl,by rw[hpk];simpa using H⟩
 refine wk ?_;refine H.us (acQ H.data hs aa hlt) ?_;intro w H;have hr:=JI (l.drop p);rw[aU]at hr;have hX:l.drop p=l[p]::l.drop (p+1):=List.drop_eq_getElem_cons hlt;obtain⟨p0,c0⟩:=hs.aR (g:=bv) (λ_=>rfl) hlt;by_cases hfl:L.length=128\/(3<=dM (l.drop p)/\0<L.length)
 ·have Tz:0<L.length:=aa;have hL:L≠[]:=iC.1 Tz;rw[Wg hL (hfl.elim .inl λh=>.inr (.inr h.1)) Mb]at hpk;by_cases h128:L.length=128
  ·refine H.wg ?_;intro _ w H;replace H:=H.cB (NP (n:=L.length) (x:=rl.len) aa aa hrl);replace H:=H.gh (n:=1) (e:=5) (sz:=1) rfl (by simp[maxLen]);refine Rel.eB H (i:=1) rfl (by simp only[aq,aK];omega) ?_;intro r1 w H;simp only[fa,bH]at H;refine wk ?_;refine Rel.eB H (i:=0) rfl (by simp only[ak,aq,aK];omega) ?_;intro r2 w H;simp only[bH]at H;refine wk ?_;replace H:=H.br 5 1;exact⟨sB,(p,r2,O++[aD (L.length-1)]++L,⟨none,0,0⟩,[]),sB,⟨hp,by rw[hpk,yV];simp,ah,by simp only[ak,aq,aK];omega,H⟩,by simp only[aK];omega⟩
  have h3:3<=dM (l.drop p):=aa;refine H.wg ?_;intro _ w H;replace H:=H.cB (NP (n:=L.length) (x:=rl.len) aa aa hrl);replace H:=H.gh (n:=1) (e:=5) (sz:=1) rfl (by simp[maxLen]);refine Rel.eB H (i:=1) rfl (by simp only[aq,aK];omega) ?_;intro r1 w H;simp only[fa,bH]at H;refine wk ?_;refine Rel.eB H (i:=0) rfl (by simp only[ak,aq,aK];omega) ?_;intro r2 w H;simp only[bH]at H;refine wk ?_;replace H:=H.br 5 1;exact⟨sB,(p,r2,O++[aD (L.length-1)]++L,⟨none,0,0⟩,[]),sB,⟨hp,by rw[hpk,yV];simp,ah,by simp only[ak,aq,aK];omega,H⟩,by simp only[aK];omega⟩
 by_cases h3:3<=dM (l.drop p)
 ·have hL0:L.length=0:=aa;obtain rfl:=dt hL0;rw[yV,IQ h3,gK]at hpk;refine H.wg ?_;intro _ w H;replace H:=H.cB (Wi hr.1 (y:=l[p]) (X:=l.drop p) (by rw[hX];rfl));replace H:=H.gh (n:=2) (e:=5) (sz:=1) rfl (by simp[maxLen]);refine Rel.eB H (i:=1) rfl (by simp only[aq,aK]at hO |-;omega) ?_;intro r1 w H;simp only[fa,bH]at H;refine wk ?_;exact⟨sB,(p+dM (l.drop p),r1,O++[aD (126+dM (l.drop p)),(l.drop p).headD 0],rl,[]),sB,⟨by dsimp only;omega,by rw[hpk,yV];simp,ah,by simp only[ak,aq,aK]at hO |-;omega,H⟩,by simp only[aK];omega⟩
 have hL7:L.length<128:=aa;rw[hX,ahc hL7 (by rw[<-hX];omega)]at hpk;refine H.wg ?_;intro _ w H;replace H:=H.gh (n:=1) (e:=5) (sz:=1) rfl (by simp[maxLen]);have H0:Rel W V (.row _ 5 1 ([l[p]].flatMap aI)::_) V w:=H;refine Rel.eB H0 (i:=0) rfl (by simp only[aq,aK];omega) ?_;clear H H0;intro r1 w H;simp only[bH]at H;refine wk ?_;exact⟨sB,(p+1,ro,O,r1,L++[l[p]]),sB,⟨by dsimp only;omega,hpk,by simp;omega,by simp only[ak,aq,aK];omega,H⟩,by simp only[ak,aq,aK];omega⟩
def lI(most:Nat)(acc l:ab):fV:=match l with
 | []=>some acc
 | c::r =>
  if c.toNat<128 then(if r.length<c.toNat+1 then none else if most<(acc++r.take (c.toNat+1)).length then none else lI most (acc++r.take (c.toNat+1)) (r.drop (c.toNat+1)))
  else if r.length=0 then none else if most<(acc++eP (c.toNat-126) (r.headD 0)).length then none else lI most (acc++eP (c.toNat-126) (r.headD 0)) (r.drop 1)
termination_by l.length
decreasing_by
 ·rw[aU,aq];omega
 rw[aU,aq];omega
theorem G1(m:Nat)(a:ab):lI m a []=some a:=by rw[lI]
theorem G0(m:Nat)(acc:ab)(c:UInt8)(r:ab):lI m acc (c::r)=if c.toNat<128 then(if r.length<c.toNat+1 then none else if m<(acc++r.take (c.toNat+1)).length then none else lI m (acc++r.take (c.toNat+1)) (r.drop (c.toNat+1)))
  else if r.length=0 then none else if m<(acc++eP (c.toNat-126) (r.headD 0)).length then none else lI m (acc++eP (c.toNat-126) (r.headD 0)) (r.drop 1):=by
 conv=>lhs;rw[lI]
theorem Le(m:Nat):∀(n:Nat) (acc l:ab),l.length<n->acc.length+l.length<=m->lI m acc (gn l)=some (acc++l)
 | 0,_,_,h,_=>absurd h (Nat.not_lt_zero _)
 | n+1,acc,l,hn,hm=>by
  by_cases hl:l=[]
  ·rw[hl,EU,G1,aZ]
  have h1:0<l.length:=iC.2 hl;by_cases h3:3<=dM l
  ·have hr:=JI l;have hc:(aD (126+dM l)).toNat=126+dM l:=by rw[kt];omega
   have ht:=Ph (l.headD 0) 129 l;rw[show iE (l.headD 0) 129 l=dM l from rfl]at ht;rw[IQ h3,G0,ae aa,ae ah,hc,show 126+dM l-126=dM l by omega,List.headD_cons,<-ht,ae (by rw[ak,bg];omega),zf,mf,Le m n _ _ (by rw[aU];omega) (by rw[ak,bg,aU];omega),bj,eW]
  have hk:=Is hl;have hc:(aD (iQ l-1)).toNat=iQ l-1:=by rw[kt];omega
  have htl:(l.take (iQ l)).length=iQ l:=by rw[bg];omega
  rw[BB hl aa,G0,hc,ag aa,ae (by rw[ak];omega),show iQ l-1+1=iQ l by omega,List.take_left' htl,List.drop_left' htl,ae (by rw[ak];omega),Le m n _ _ (by rw[aU];omega) (by rw[ak,aU];omega),bj,eW]
structure aav(W V:ad)(o:fV)(v:aj)(w':ad):Prop where
 ex:∃(V':ad) (r:Sl),Sub V V'/\Rel W V [] V' w'/\(match o with
  | none=>v=.tuple #[.slice none 0 0,.bool false]
  | some o=>v=.tuple #[r.v,.bool true]/\aF V' r o)
theorem alM(hV:Sub V W){s:Sl}{l:ab}(hs:aF V s l)(hl:l.length<=100000000){most:Nat}(hm:most<=100000000):aB 84 [s.v,iv (most:Int)] W (aav W V (lI most [] l)):=by
 have H:=aG hV;have hlen:=hs.len;refine eV Tryz.func84 55 [0,1,4,5,6,7,8,11,17,22,35,39,53] ?_;refine wk ?_;replace H:=H.br 5 1;refine aP (S:=Sl×ab×Sl×ab) al [1] (λk=>[(0,k.1.v),(1,iv most),(6,k.2.2.1.v)]) (λk w'=>aF V k.1 k.2.1/\lI most [] l=lI most k.2.2.2 k.2.1/\k.2.1.length<=l.length/\k.2.2.2.length<=most/\Rel W V [.row k.2.2.1 5 1 (k.2.2.2.flatMap aI)] V w') (λk _=>k.2.1.length) (s,l,⟨none,0,0⟩,[]) ?_;conv=>whnf
 refine⟨sB,⟨hs,rfl,aQ _,cE _,H⟩,?_⟩;clear H;rintro⟨q,X,r,A⟩w⟨hq,hd,hX,hA,H⟩;dsimp only at hq hd hX hA H |-;have cD:=hq.len;have Bd:=hq.cap;cases X with
 | nil =>rw[aK]at cD;rw[hd,G1];obtain⟨V2,hV2,H,hr⟩:=Rel.aJ H;refine wk ?_;exact⟨V2,r,hV2,H.sx,rfl,hr⟩
 | cons c R =>
  rw[aq]at cD hX;obtain⟨p0,c0⟩:=hq.aR (g:=bv) (λ_=>rfl) (show 0<(c::R).length by simp);rw[List.getElem_cons_zero]at c0;rw[G0]at hd;have DG:=c.toNat_lt;by_cases hc:c.toNat<128
  ·rw[ag hc]at hd;by_cases hn:R.length<c.toNat+1
   ·rw[hd,ag hn];refine wk ?_;exact⟨V,⟨none,0,0⟩,aS _,H.sx,rfl⟩
   rw[ae hn]at hd;have hs1:=aA.sub hq (n:=1) (λ_=>rfl) (a:=1) (b:=c.toNat+2) aa (by rw[aq];omega);have e1:((c::R).take (c.toNat+2)).drop 1=R.take (c.toNat+1):=by rw[List.take_succ_cons,zf,mf]
   rw[e1]at hs1;have dG:=hq.rest (k:=c.toNat+2) (by rw[aq];omega);rw[wG]at dG;refine wk ?_;refine Rel.jO H (i:=0) rfl hs1 (by rw[bg];omega) ?_;intro r1 w H;simp only[bH]at H;have hrl:r1.len=(A++R.take (c.toNat+1)).length:=H.dW (i:=0) rfl (λ_=>rfl) ai;by_cases dz:most<(A++R.take (c.toNat+1)).length
   ·rw[hd,ag dz];refine wk ?_;exact⟨V,⟨none,0,0⟩,aS _,H.sx,rfl⟩
   rw[ae dz]at hd;refine wk ?_;exact⟨sB,(_,R.drop (c.toNat+1),r1,A++R.take (c.toNat+1)),sB,⟨dG,hd,by rw[aU];omega,Nat.le_of_not_lt dz,H⟩,by rw[aU,aq];omega⟩
  rw[ae hc]at hd;by_cases hn:R.length=0
  ·rw[hd,ag hn];refine wk ?_;exact⟨V,⟨none,0,0⟩,aS _,H.sx,rfl⟩
  rw[ae hn]at hd;have dG:=hq.rest (k:=2) (by rw[aq];omega);rw[wG]at dG;obtain⟨p1,c1⟩:=hq.aR (g:=bv) (λ_=>rfl) (show 1<(c::R).length by rw[aq];omega);have e1:(c::R)[1]'(by rw[aq];omega)=R.headD 0:=by cases R with|nil=>exact absurd rfl hn|cons y l=>rfl
  rw[e1]at c1;refine wk ?_;refine aP (S:=Nat×Sl) al [0,1,4,5,7,11,17,22,35,53] (λk=>[(0,q.v),(1,iv most),(6,k.2.v),(7,iv (c.toNat:Int)),(8,iv k.1)]) (λk w'=>k.1<=c.toNat-126/\Rel W V [.row k.2 5 1 ((A++eP k.1 (R.headD 0)).flatMap aI)] V w') (λk _=>c.toNat-k.1) (0,r) ?_;conv=>whnf
  refine⟨sB,⟨cE _,by simpa using H⟩,?_⟩;clear H;rintro⟨k,r1⟩w⟨hk,H⟩;dsimp only at hk H |-;by_cases hlt:k<c.toNat-126
  ·refine H.wg ?_;intro _ w H;replace H:=H.gh (n:=1) (e:=5) (sz:=1) rfl (by simp[maxLen]);have H0:Rel W V (.row _ 5 1 ([R.headD 0].flatMap aI)::_) V w:=H;refine Rel.eB H0 (i:=0) rfl (by simp only[ak,List.length_replicate,aq,aK];omega) ?_;clear H H0;intro r2 w H;simp only[bH]at H;rw[bj,<-List.replicate_succ']at H;refine wk ?_;exact⟨sB,(k+1,r2),sB,⟨by dsimp only;omega,H⟩,by dsimp only;omega⟩
  obtain rfl:k=c.toNat-126:=aa;have hrl:r1.len=(A++eP (c.toNat-126) (R.headD 0)).length:=H.dW (i:=0) rfl (λ_=>rfl) ai;by_cases dz:most<(A++eP (c.toNat-126) (R.headD 0)).length
  ·rw[hd,ag dz];refine wk ?_;exact⟨V,⟨none,0,0⟩,aS _,H.sx,rfl⟩
  rw[ae dz]at hd;refine wk ?_;exact⟨sB,(_,R.drop 1,r1,A++eP (c.toNat-126) (R.headD 0)),sB,⟨dG,hd,by rw[aU];omega,Nat.le_of_not_lt dz,H⟩,by rw[aU,aq];omega⟩
theorem I0(hV:Sub V W){f:Nat}(hf:f<64):aB 87 [iv (f:Int)] W λv w'=>v=iv ((bitsOf f:Nat):Int)/\Rel W V [] V w':=by
 have H:=aG hV;refine eV Tryz.func87 10 [0,2,3] ?_;refine H.wn ?_;intro w b4 H;unfold bitsOf;obtain⟨d,hd⟩:∃d,d=f/16:=⟨_,rfl⟩
 have ri:(f:Int)/16=(d:Int):=aa;rw[<-hd];have:d=0\/d=1\/d=2\/d=3:=aa;refine wk ?_;rw[ri];clear hd ri;rcases this with rfl|rfl|rfl|rfl
 all_goals
  refine wk ?_;exact H.sx
abbrev BF(f wd ht:Int)(p:Sl):aC:=[iv f,iv wd,iv ht,p.v]
theorem ajl(hV:Sub V W){f:Nat}(hf:f<64){wd:Nat}(hw:wd<=64)(ht:Int)(p:Sl):aB 83 [.agg (BF f wd ht p).toArray] W λv w'=>v=iv ((rowOf f wd:Nat):Int)/\Rel W V [] V w':=by
 have H:=aG hV;have hb:=Ak f;have hm:wd*bitsOf f<=64*24:=mg hw hb.2;have MS:(wd:Int)*((bitsOf f:Nat):Int)=((wd*bitsOf f:Nat):Int):=(so _ _).symm;refine eV Tryz.func83 11 [0,1,2] ?_;refine H.wn ?_;intro w b1 H;obtain⟨V2,hV2,H,hb1⟩:=H.cU;have f0:=hb1.cS (i:=0) rfl;have f1:=hb1.cS (i:=1) rfl;refine wk ?_;refine dX (id:=1) V2 [4] [1] [0,1,2,3,4,5,6,7,8] [(4,[])] H ?_;intro w H;repeat' (refine wk ?_;first|(first|refine Kv.go H ?_|refine Kv.go2 H (by assumption) ?_|refine jI ?_|refine And.intro ?_ ?_|(refine H.nA ?_;intro w _ H))|(refine(I0 H.data hf).use ?_;rintro q w⟨rfl,K⟩;(replace H:=H.bd K)))
 all_goals
  refine wk ?_;exact H.less (aS V) hV2
abbrev va:ab:=[119,105,100,116,104]
abbrev u7:ab:=[104,101,105,103,104,116]
abbrev u9:ab:=[112,105,120,101,108,115]
abbrev kp(wd ht:Int)(b:ab):ao:=.mk 4 0 [] [va,u7,u9] [.mk 1 wd [] [] [],.mk 1 ht [] [] [],.mk 2 0 b [] []]
theorem WB{V:ad}{bn bp:Nat}{r:Sl}(h1:Cells V (some ⟨bn,0,none⟩) [str va,str u7,str u9])(h2:Cells V (some ⟨bp,0,none⟩) (a8 (jo wd)++(a8 (jo ht)++a8 (ft r))))(h3:aF V r b) :
  cb V ⟨4,0,⟨none,0,0⟩,⟨some ⟨bn,0,none⟩,3,3⟩,⟨some ⟨bp,0,none⟩,3,3⟩⟩ (kp wd ht b):=by
 refine Qh (hs:=[jo wd,jo ht,ft r]) ⟨rfl,aQ _,h1⟩ ⟨rfl,aQ _,h2⟩ rfl λi x p hx hp=>?_;match i,hx,hp with
 | 0,hx,hp=>cases hx;cases hp;exact zK _ _
 | 1,hx,hp=>cases hx;cases hp;exact zK _ _
 | 2,hx,hp=>cases hx;cases hp;exact tS h3
 | k+3,hx,hp=>simp at hx
theorem Qj(h1:cY wd)(h2:cY ht)(h3:b.length<=1048576):VB 1048576 (kp wd ht b):=by
 refine .mk (kj 4) (kj 0) (cE _) (by show 3<=1048576;decide) (λs hs=>?_) (by show 3<=1048576;decide) λp hp=>?_
 ·simp only[ao.names,bP,tA,or_false]at hs;rcases hs with rfl|rfl|rfl<;>decide
 simp only[ao.parts,bP,tA,or_false]at hp;rcases hp with rfl|rfl|rfl
 ·exact Cu h1
 ·exact Cu h2
 exact zL h3
theorem ahC(hV:Sub V W)(wd ht:Int){s:Sl}{b:ab}(hs:aF V s b) :
  aB 89 [iv wd,iv ht,s.v] W λq w'=>∃(V':ad) (h:VH),Sub V V'/\Rel W V [] V' w'/\q=gw h/\cb V' h (kp wd ht b):=by
 have H:=aG hV;refine eV Tryz.func89 16 [0,1,2,6] ?_;refine H.wn ?_;intro w b6 H;refine H.wn ?_;intro w b7 H;refine H.wn ?_;intro w nW H;have H0:Rel W V [.ay nW (a8 (jo wd)++(a8 (jo ht)++a8 (ft s))) 27,.ay b7 [str va,str u7,str u9] 9,.ay b6 (a8 aV) 27] V w:=H;obtain⟨V2,hV2,H,q9⟩:=H0.cU;clear H0;obtain⟨V3,aw,H,j8⟩:=H.cU;refine H.wg ?_;intro w H;exact⟨V3,_,hV2.trans aw,H.sx,rfl,WB j8.cells (q9.cells.tL aw) ((hs.up hV2).up aw)⟩
theorem ac9{f:α->aC}{l:List α}(h:∀x,(f x).all Value.oneCell'=true):∀u∈l.flatMap f,u.oneCell'=true:=by intro u hu;obtain⟨x,_,hx⟩:=uY.1 hu;exact bc.1 (h x) u hx
theorem abC(hV:Sub V W){s:Sl}{l:ab}(hs:aA aI V s l)(hl:l.length<=1099511627776):aB 73 [s.v] W λv w'=>∃(V':ad) (t:Sl),Sub V V'/\Rel W V [] V' w'/\v=t.v/\aA aI V' t l:=by
 have H:=aG hV;have hlen:=hs.len;refine eV Tryz.func73 8 [0,2,4] ?_;rcases s with⟨_|p,n,c⟩
 ·have qh:l=[]:=by
   rcases l with _|⟨b,l⟩
   ·rfl
   have:=hs.cells.1 (by simp[aI]);simp[Plain]at this
  subst qh;refine wk ?_;exact⟨V,⟨none,0,0⟩,aS V,H.sx,rfl,aA.nil _ _⟩
 refine H.wn ?_;intro w b5 H;refine wk ?_;replace H:=H.gh (n:=0) (e:=5) (sz:=1) rfl (by simp[maxLen]);refine Rel.QR (s:=⟨some ⟨b5,0,none⟩,0,0⟩) (x:=⟨some p,n,c⟩) al rfl rfl rfl rfl rfl ai H (hs.up H.data).cells (kW (n:=1) (λ_=>rfl) l |>.trans (by rw[<-hlen])) (ac9 (λ_=>rfl)) (by simp;dsimp only at hlen;omega) (by simp;dsimp only at hlen;omega) ?_;intro rn w H yx;refine wk ?_;obtain⟨V2,hV2,H,hr⟩:=Rel.aJ H;exact⟨V2,rn,hV2,H.sx,rfl,hr⟩
theorem VU(hV:Sub V W)(n:Int):aB 212 [iv n] W λq w'=>q=gw (jo n)/\Rel W V [] V w':=by have H:=aG hV;refine eV Tryz.func212 5 [0,2] ?_;refine H.wn ?_;intro w b2 H;refine H.wg ?_;intro w H;exact H.sx
theorem ahG(hV:Sub V W)(wd ht:Int){s:Sl}{b:ab}(hs:aF V s b)(hl:b.length<=1099511627776) :
  aB 133 [iv wd,iv ht,s.v] W λq w'=>∃(V':ad) (h:VH),Sub V V'/\Rel W V [] V' w'/\q=gw h/\cb V' h (kp wd ht b):=by
 have H:=aG hV;refine eV Tryz.func133 20 [0,1,2,6,7] ?_;refine H.wn ?_;intro w b6 H;refine H.wn ?_;intro w b7 H;refine wk (H.us (VU H.data wd) ?_);intro w H;refine wk (H.us (VU H.data ht) ?_);intro w H;refine wk ((abC H.data hs hl).use ?_);rintro q w⟨V2,r,hV2,K,rfl,hr⟩;replace H:=H.bd K;refine H.wn ?_;intro w nW H;have H0:Rel W V [.ay nW (a8 (jo wd)++(a8 (jo ht)++a8 (ft r))) 27,.ay b7 [str va,str u7,str u9] 9,.ay b6 (a8 aV) 27] V2 w:=H;obtain⟨V3,aw,H,q9⟩:=H0.cU;clear H0;obtain⟨V4,ar,H,j8⟩:=H.cU;refine H.wg ?_;intro w H;exact⟨V4,_,(hV2.trans aw).trans ar,H.sx,rfl,WB j8.cells (q9.cells.tL ar) ((hr.up aw).up ar)⟩
abbrev cd:=UInt8×UInt8×UInt8
abbrev ni(c:cd):ab:=[c.1,c.2.1,c.2.2]
abbrev gi(p:List cd):ab:=p.flatMap ni
def mz:ab->List cd
 | r::g::b::l=>(r,g,b)::mz l
 | _=>[]
theorem GQ:∀p:List cd,mz (gi p)=p
 | []=>rfl
 | c::p=>by show(c.1,c.2.1,c.2.2)::mz (gi p)=c::p;rw[GQ p]
theorem CZ:∀(n:Nat) {l:ab},l.length=3*n->gi (mz l)=l/\(mz l).length=n
 | 0,[],_=>⟨rfl,rfl⟩
 | 0,_::_,h=>by simp at h
 | n+1,[],h=>by first|(simp at h;omega)|simp at h
 | n+1,[_],h=>by first|(simp at h;omega)|simp at h
 | n+1,[_,_],h=>by first|(simp at h;omega)|simp at h
 | n+1,r::g::b::l,h=>by obtain⟨k1,k2⟩:=CZ n (l:=l) (by simp at h;omega);show[r,g,b]++gi (mz l)=_/\(mz l).length+1=_;rw[k1,k2];exact⟨rfl,rfl⟩
theorem my(p:List cd):(gi p).length=3*p.length:=by
 induction p with
 | nil=>rfl
 | cons c p ih=>simp only[gi,bD,ak,aq,aK]at ih |-;omega
abbrev z8(l:ab)(i:Nat):UInt8:=l[i]?.getD 0
abbrev fG(l:ab)(i:Nat):cd:=(z8 l (3*i),z8 l (3*i+1),z8 l (3*i+2))
theorem KW(l:ab):∀(n:Nat),l.length=3*n->mz l=(bZ n).map (fG l):=by
 intro n;induction n generalizing l with
 | zero=>intro h;rw[dt (l:=l) aa];rfl
 | succ n ih =>
  intro h;match l,h with
  | r::g::b::l,h =>rw[E8,fO,pD];show(r,g,b)::mz l=_;rw[ih l (by simp at h;omega)];congr 1
  | [],h=>first|(simp at h;omega)|simp at h
  | [_],h=>first|(simp at h;omega)|simp at h
  | [_,_],h=>first|(simp at h;omega)|simp at h
def tv:List cd->cd->Nat
 | [],_=>0
 | x::l,c=>if x=c then 0 else tv l c+1
theorem WG:∀ {l:List cd} {i:Nat} {c:cd},l.Nodup->l[i]?=some c->tv l c=i
 | x::l,0,c,_,h=>by simp at h;subst h;unfold tv;rw[ag rfl]
 | x::l,i+1,c,hn,h=>by rw[List.getElem?_cons_succ]at h;obtain⟨h1,h2⟩:=List.nodup_cons.1 hn;unfold tv;rw[ae (λe=>h1 (by rw[e];exact jX h)),WG h2 h]
def nE(f:Nat):Nat:=if f/16=1 then 16 else 2
def EO(f:Nat)(l:ab)(n:Nat):Prop:=1<=n/\n<=nE f/\3*n<=l.length/\(mz (l.take (3*n))).Nodup
instance(f:Nat)(l:ab)(n:Nat):Decidable (EO f l n):=by unfold EO;infer_instance
def jq(f:Nat):ab->Option (List cd×ab)
 | []=>none
 | c::l=>if EO f l c.toNat then some (mz (l.take (3*c.toNat)),l.drop (3*c.toNat))else none
def qH(f:Nat)(b:ab):Option (List cd×ab):=if f<32 then jq f b else some ([],b)
def rT(p:List cd):ab:=aD p.length::gi p
def jM(f:Nat)(p:List cd):ab:=if f<32 then rT p else[]
structure mW(f:Nat)(p:List cd):Prop where
 ind:f<32->1<=p.length/\p.length<=nE f/\p.Nodup
 non:32<=f->p=[]
theorem EG(f:Nat):nE f<=16:=by unfold nE;split<;>omega
theorem mW.le{p:List cd}(h:mW f p):p.length<=16:=by
 by_cases hf:f<32
 ·have:=h.ind hf;have:=EG f;omega
 rw[h.non aa];simp
theorem Wk{p:List cd}(h:jq f b=some (p,l)):b=rT p++l/\1<=p.length/\p.length<=nE f/\p.Nodup:=by
 cases b with
 | nil=>cases h
 | cons c r =>
  unfold jq at h;simp only at h;by_cases hk:EO f r c.toNat
  ·rw[ag hk]at h;obtain⟨h1,h2,h3,h4⟩:=hk;cases h;obtain⟨k1,k2⟩:=CZ c.toNat (l:=r.take (3*c.toNat)) (by rw[bg];omega);refine⟨?_,by rw[k2];exact h1,by rw[k2];exact h2,h4⟩;unfold rT;rw[k1,k2,bb,eW];congr 1;exact(zg).symm
  rw[ae hk]at h;cases h
theorem ahp{p:List cd}(l:ab)(h:1<=p.length/\p.length<=nE f/\p.Nodup):jq f (rT p++l)=some (p,l):=by
 have hm:=EG f;have e:(aD p.length).toNat=p.length:=by rw[kt];omega
 have e1:(gi p++l).take (3*p.length)=gi p:=by rw[<-my,List.take_left]
 have e2:(gi p++l).drop (3*p.length)=l:=by rw[<-my,kN]
 show(if EO f (gi p++l) (aD p.length).toNat then some (mz ((gi p++l).take (3*(aD p.length).toNat)),(gi p++l).drop (3*(aD p.length).toNat))else none)=_;rw[e,e1,e2,GQ,ag];refine⟨h.1,h.2.1,by rw[ak,my];omega,?_⟩;rw[e1,GQ];exact h.2.2
theorem JT{p:List cd}(h:qH f b=some (p,l)):b=jM f p++l/\mW f p:=by
 unfold qH at h;unfold jM;split at h
 ·rename_i hf;rw[ag hf];obtain⟨k1,k2⟩:=Wk h;exact⟨k1,λ_=>k2,λq=>by omega⟩
 rename_i hf;rw[ae hf];cases h;exact⟨rfl,λq=>absurd q hf,λ_=>rfl⟩
theorem akw{p:List cd}(l:ab)(h:mW f p):qH f (jM f p++l)=some (p,l):=by
 unfold qH jM;split
 ·rename_i hf;exact ahp l (h.ind hf)
 rename_i hf;rw[h.non aa];rfl
theorem PF{p:List cd}(h:mW f p):(jM f p).length<=49:=by
 have:=h.le;unfold jM rT;split
 ·rw[aq,my];omega
 simp
def fieldAt(n:Nat)(row:ab)(i:Nat):Nat:=(z8 row (i*n/8)).toNat/2^(8-n-i*n%8)%2^n
def byteOf(n:Nat)(q:Nat->Nat)(k:Nat):Nat:=if n=4 then 16*q (2*k)+q (2*k+1)
 else 128*q (8*k)+64*q (8*k+1)+32*q (8*k+2)+16*q (8*k+3)+8*q (8*k+4)+4*q (8*k+5)+2*q (8*k+6)+q (8*k+7)
def yW(n size:Nat)(q:Nat->Nat):ab:=(bZ size).map λk=>aD (byteOf n q k)
theorem Wh(n size:Nat)(q:Nat->Nat):(yW n size q).length=size:=by simp[yW]
theorem ahd{q:Nat->Nat}(hk:k<size):z8 (yW n size q) k=aD (byteOf n q k):=by simp[z8,yW,ib,sd hk]
theorem Lw(n:Nat)(row:ab)(i:Nat):fieldAt n row i<2^n:=Nat.mod_lt _ (Nat.pow_pos ai)
theorem ahe(hn:n=1\/n=4)(row:ab):yW n row.length (fieldAt n row)=row:=by
 refine zc λk=>?_;by_cases hk:k<row.length;rotate_left
 ·rw[lO (by rw[Wh];omega),lO aa]
 have e:∀l:ab,k<l.length->l[k]?=some (z8 l k):=λl h=>by simp[z8,bz h]
 rw[e _ (by rw[Wh];exact hk),e row hk,ahd hk];congr 1;apply bL.1;have hc:=(z8 row k).toNat_lt;rw[kt];have key:byteOf n (fieldAt n row) k=(z8 row k).toNat:=by
  unfold byteOf fieldAt;rcases hn with rfl|rfl
  ·rw[ae ai]
   simp only[Nat.mul_one,show 8*k/8=k by omega,show(8*k+1)/8=k by omega,show(8*k+2)/8=k by omega,show(8*k+3)/8=k by omega,show(8*k+4)/8=k by omega,show(8*k+5)/8=k by omega,show(8*k+6)/8=k by omega,show(8*k+7)/8=k by omega,
    show 8*k%8=0 by omega,show(8*k+1)%8=1 by omega,show(8*k+2)%8=2 by omega,show(8*k+3)%8=3 by omega,show(8*k+4)%8=4 by omega,show(8*k+5)%8=5 by omega,show(8*k+6)%8=6 by omega,show(8*k+7)%8=7 by omega]
   simp only[Nat.reducePow,Nat.reduceSub];omega
  rw[ag rfl];simp only[show 2*k*4/8=k by omega,show(2*k+1)*4/8=k by omega,show 2*k*4%8=0 by omega,show(2*k+1)*4%8=4 by omega];simp only[Nat.reducePow,Nat.reduceSub];omega
 rw[key];omega
abbrev Ar(pal:List cd)(k:Nat):cd:=pal[k]?.getD (0,0,0)
def Fw(n:Nat)(pal:List cd)(w:Nat)(row:ab):Prop:=(∀i,i<w->fieldAt n row i<pal.length)/\∀i,i<8*row.length/n->w<=i->fieldAt n row i=0
instance(n:Nat)(pal:List cd)(w:Nat)(row:ab):Decidable (Fw n pal w row):=by unfold Fw;infer_instance
def me(n:Nat)(pal:List cd)(row:ab)(i:Nat):cd:=Ar pal (fieldAt n row i)
def lR(f:Nat)(pal:List cd)(w:Nat)(row:ab):fV :=
 if f/16=3 then some row else if f/16=2 then some (row.flatMap λc=>[c,c,c])else if Fw (bitsOf f) pal w row then some (gi ((bZ w).map (me (bitsOf f) pal row)))else none
def Oq(pal:List cd)(w:Nat)(px:ab)(i:Nat):Nat:=if i<w then tv pal (fG px i)else 0
def F8(f:Nat)(pal:List cd)(w:Nat)(px:ab):fV :=
 if f/16=3 then some px else if f/16=2 then some ((bZ w).map λi=>z8 px (3*i))else if ∀i,i<w->fG px i∈pal then some (yW (bitsOf f) (rowOf f w) (Oq pal w px))else none
def AL(f w:Nat)(px:ab):Prop:=f/16=2->∀i,i<w->z8 px (3*i)=z8 px (3*i+1)/\z8 px (3*i)=z8 px (3*i+2)
instance(f w:Nat)(px:ab):Decidable (AL f w px):=by unfold AL;infer_instance
theorem GC(hf:f<64)(h3:f/16≠3)(h2:f/16≠2):(bitsOf f=1\/bitsOf f=4)/\f<32/\nE f=2^bitsOf f:=by
 unfold bitsOf nE;split
 ·exact⟨.inl rfl,aa,by rw[ae aa]⟩
 split
 ·exact⟨.inr rfl,aa,rfl⟩
 omega
theorem LI(l:ab):(l.flatMap λc=>[c,c,c])=gi ((bZ l.length).map λi=>(z8 l i,z8 l i,z8 l i)):=by
 induction l with
 | nil=>rfl
 | cons c l ih =>rw[aq,E8,fO,pD,bD,ih];rfl
theorem Qw(p:List cd)(i:Nat)(hi:i<p.length):fG (gi p) i=p[i]:=by have h:=KW (gi p) p.length (my p);rw[GQ]at h;have:=ax (λl=>l[i]?) h;simp only[ib,sd hi,bz hi,gQ]at this;exact(Option.some.inj this).symm
theorem abK(px:ab)(w:Nat)(h:px.length=3*w):gi ((bZ w).map (fG px))=px:=by rw[<-KW px w h];exact(CZ w h).1
theorem Qv{w:Nat}{pal:List cd}(hf:f<64)(hp:mW f pal){row px:ab}(hl:row.length=rowOf f w)(h:lR f pal w row=some px):px.length=3*w/\AL f w px/\F8 f pal w px=some row:=by
 unfold lR at h;unfold F8;split at h
 ·rename_i h3;cases h;have:bitsOf f=24:=by unfold bitsOf;rw[ae aa,ae aa,ae aa]
  unfold rowOf at hl;rw[this]at hl;refine⟨aa,λq=>by omega,by rw[ag h3]⟩
 rename_i h3;split at h
 ·rename_i h2;cases h;have:bitsOf f=8:=by unfold bitsOf;rw[ae aa,ae aa,ag h2]
  unfold rowOf at hl;rw[this]at hl;have hw:row.length=w:=aa;rw[LI];have sT:∀i,i<w->fG (gi ((bZ row.length).map λi=>(z8 row i,z8 row i,z8 row i))) i=(z8 row i,z8 row i,z8 row i):=by intro i hi;rw[Qw _ i (by simp;omega)];simp
  refine⟨by rw[my,aW,gq,hw],λ_ i hi=>?_,?_⟩
  ·have:=sT i hi;simp only[fG,Prod.mk.injEq]at this;obtain⟨a,b,c⟩:=this;rw[a,b,c];exact⟨rfl,rfl⟩
  rw[ae h3,ag h2];congr 1;refine zc λk=>?_;by_cases hk:k<w
  ·rw[ib,sd hk];have:=sT k hk;simp only[fG,Prod.mk.injEq]at this;simp only[gQ];rw[this.1];simp[z8,bz (show k<row.length by omega)]
  rw[lO (by simp;omega),lO aa]
 rename_i h2;split at h
 ·rename_i hok;cases h;obtain⟨hn,h32,hm⟩:=GC hf h3 h2;obtain⟨p1,p2,p3⟩:=hp.ind h32;have ca:∀i,i<w->fG (gi ((bZ w).map (me (bitsOf f) pal row))) i=me (bitsOf f) pal row i:=λi hi=>by rw[Qw _ i (by simp;omega)];simp
  have cp:∀i,i<w->pal[fieldAt (bitsOf f) row i]?=some (me (bitsOf f) pal row i):=λi hi=>by unfold me Ar;rw[bz (hok.1 i hi)];rfl
  refine⟨by rw[my,aW,gq],λq=>absurd q h2,?_⟩;rw[ae h3,ae h2,ag (λi hi=>by rw[ca i hi];exact jX (cp i hi))];congr 1;rw[<-hl];conv=>rhs;rw[<-ahe hn row]
  unfold yW;refine qz λk hk=>?_;have hk:=List.mem_range.1 hk;have q:∀i,i<8*row.length/bitsOf f->Oq pal w (gi ((bZ w).map (me (bitsOf f) pal row))) i=fieldAt (bitsOf f) row i:=by
   intro i hi;unfold Oq;split
   ·rename_i yj;rw[ca i yj];exact WG p3 (cp i yj)
   rename_i yj;exact(hok.2 i hi aa).symm
  congr 1;unfold byteOf;rcases hn with e|e
  ·rw[e]at q |-;rw[ae ai,ae ai,q _ aa,q _ aa,q _ aa,q _ aa,q _ aa,q _ aa,q _ aa,q _ aa]
  rw[e]at q |-;rw[ag rfl,ag rfl,q _ aa,q _ aa]
 cases h
abbrev afQ:ab:=[98,105,116,115]
abbrev af2:ab:=[114,111,119,115,32,117,112,119,97,114,100]
abbrev af0:ab:=[114,117,110,115]
abbrev afS:ab:=[99,111,108,111,114,115]
def Bi(f n:Nat):List pN:=(if bitsOf f=24 then[]else[(afQ,(bitsOf f:Int))])++(if f%2=1 then[(af2,1)]else[])++(if f/2%2=1 then[(af0,1)]else[])++(if f<32 then[(afS,(n:Int))]else[])
structure qR where
 wd:Nat
 ht:Nat
 f:Nat
 pal:List cd
 px:ab
def p9(f:Nat):Prop:=f<64/\f%16<4
instance(f:Nat):Decidable (p9 f):=by unfold p9;infer_instance
def nK(n:Nat):Prop:=1<=n/\n<=64
instance(f:Nat):Decidable (nK f):=by unfold nK;infer_instance
def turn{α:Type}(f:Nat)(R:List α):List α:=if f%2=1 then R.reverse else R
theorem YX(f:Nat)(R:List α):turn f (turn f R)=R:=by unfold turn;split<;>simp
theorem YW(f:Nat)(R:List α):(turn f R).length=R.length:=by unfold turn;split<;>simp
theorem VE{R:List α}{x:α}:x∈turn f R↔x∈R:=by unfold turn;split<;>simp
theorem QJ{β:Type}{g:α->Option β}{l:List α}{ys:List β}(f:Nat)(h:allM g l=some ys):allM g (turn f l)=some (turn f ys):=by
 unfold turn;split
 ·exact aaD h
 exact h
def mS(f size:Nat)(B:ab):fV:=if f/2%2=1 then mo B size else if B.length=size then some B else none
def sF(f:Nat)(pal:List cd)(w h:Nat)(b:ab):fV:=match allM (lR f pal w) (fi (rowOf f w) h b)with
 | none=>none
 | some R=>some (turn f R).flatten
def oE(f:Nat)(pal:List cd)(w h:Nat)(B:ab):fV:=match mS f (rowOf f w*h) B with
 | none=>none
 | some b=>sF f pal w h b
def BE(f:Nat)(pal:List cd)(w h:Nat):ab->Option qR
 | x::y::B=>if 256*x.toNat+y.toNat=B.length then(match oE f pal w h B with
  | none=>none
  | some px=>some ⟨w,h,f,pal,px⟩)else none
 | _=>none
def BG(f w h:Nat)(l:ab):Option qR:=if p9 f/\nK w/\nK h then(match qH f l with
 | none=>none
 | some (pal,l2)=>BE f pal w h l2)else none
abbrev Fm:ab:=[82,65,83,49]
def nF(b:ab):Option qR:=if b.take 4=Fm then(match b.drop 4 with
 | f::w::h::l=>BG f.toNat w.toNat h.toNat l
 | _=>none)else none
def mN(f:Nat)(pal:List cd):ab:=if f=48 then[]else aD f::jM f pal
def fh(b:ab):Option (ao×ab):=match nF b with
 | none=>none
 | some x=>if(ct (kp x.wd x.ht x.px)).1≠0 then none else some (kp x.wd x.ht x.px,mN x.f x.pal)
def IZ:ab->Option (Nat×List cd)
 | []=>some (48,[])
 | c::l=>if p9 c.toNat/\c.toNat≠48 then(match qH c.toNat l with
  | some (p,[])=>some (c.toNat,p)
  | _=>none)else none
structure Kw(v w h p:ao):Prop where
 kind:v.kind=4
 names:v.names=[va,u7,u9]
 wk:w.kind=1
 hk:h.kind=1
 pk:p.kind=2
 w0:1<=w.num/\w.num<=64
 h0:1<=h.num/\h.num<=64
 p0:p.bytes.length=3*w.num.toNat*h.num.toNat
instance(v w h p:ao):Decidable (Kw v w h p):=decidable_of_iff (v.kind=4/\v.names=[va,u7,u9]/\w.kind=1/\h.kind=1/\p.kind=2/\(1<=w.num/\w.num<=64)/\(1<=h.num/\h.num<=64)/\p.bytes.length=3*w.num.toNat*h.num.toNat) ⟨λ⟨a,b,c,d,e,f,g,h⟩=>⟨a,b,c,d,e,f,g,h⟩,λ⟨a,b,c,d,e,f,g,h⟩=>⟨a,b,c,d,e,f,g,h⟩⟩
def BH(v:ao):Option (Nat×Nat×ab):=match v.parts with
 | [w,h,p]=>if Kw v w h p then some (w.num.toNat,h.num.toNat,p.bytes)else none
 | _=>none
def Wz(f:Nat)(pal:List cd)(w h:Nat)(px:ab):fV:=match allM (F8 f pal w) (turn f (fi (3*w) h px))with
 | none=>none
 | some R=>some (if f/2%2=1 then gn R.flatten else R.flatten)
def On(f:Nat)(pal:List cd)(w h:Nat)(B:ab):ab:=Fm++([aD f,aD w,aD h]++(jM f pal++([aD (B.length/256),aD B.length]++B)))
def Oo(f:Nat)(pal:List cd)(w h:Nat)(px:ab):fV:=match Wz f pal w h px with
 | none=>none
 | some B=>some (On f pal w h B)
noncomputable def EV(v:ao)(b:ab):fV:=match BH v,IZ b with
 | some (w,h,px),some (f,pal)=>(match Oo f pal w h px with
  | none=>none
  | some o=>if o.length<=1000/\fh o=some (v,b)then some o else none)
 | _,_=>none
def Wx(b:ab):Option (List pN):=match IZ b with
 | none=>none
 | some (f,pal)=>some (Bi f pal.length)
structure tV(b:ab)(x:qR)(B d:ab)(R:bf):Prop where
 fl:p9 x.f
 wd:nK x.wd
 ht:nK x.ht
 pal:mW x.f x.pal
 len:B.length<65536
 eq:b=On x.f x.pal x.wd x.ht B
 rows:mS x.f (rowOf x.f x.wd*x.ht) B=some d
 pix:allM (lR x.f x.pal x.wd) (fi (rowOf x.f x.wd) x.ht d)=some R
 px:x.px=(turn x.f R).flatten
theorem VX(c:UInt8):aD c.toNat=c:=zg
theorem IY{x:qR}(h:nF b=some x):∃B d R,tV b x B d R:=by
 unfold nF at h;split at h
 ·rename_i hm;split at h
  ·rename_i f w h' l he;unfold BG at h;split at h
   ·rename_i hk;obtain⟨k1,k2,k3⟩:=hk;split at h
    ·cases h
    rename_i pal l2 hs;unfold BE at h;split at h
    ·rename_i x1 y1 B;split at h
     ·rename_i hlen;split at h
      ·cases h
      rename_i px hp;cases h;unfold oE at hp;split at hp
      ·cases hp
      rename_i d hd;unfold sF at hp;split at hp
      ·cases hp
      rename_i R hR;cases hp;obtain⟨e1,e2⟩:=JT hs;have hx:=x1.toNat_lt;have hy:=y1.toNat_lt;refine⟨B,d,R,k1,k2,k3,e2,aa,?_,hd,hR,rfl⟩;have hb:=eW 4 b;rw[hm,he,e1]at hb;have q1:aD (B.length/256)=x1:=by rw[show B.length/256=x1.toNat by omega,VX]
      have q2:aD B.length=y1:=by apply bL.1;rw[kt];omega
      rw[<-hb];unfold On;simp only[VX,q1,q2,bb,aL]
     cases h
    cases h
   cases h
  cases h
 cases h
theorem XL{d:ab}(h:mS f size B=some d):d.length=size:=by
 unfold mS at h;split at h
 ·exact(Kk.1 h).1
 split at h
 ·rename_i e;cases h;exact e
 cases h
theorem ajn{d:ab}(h:mS f size B=some d):B=if f/2%2=1 then gn d else d:=by
 unfold mS at h;by_cases hc:f/2%2=1
 ·rw[ag hc]at h |-;exact(Kk.1 h).2.symm
 rw[ae hc]at h |-;split at h
 ·cases h;rfl
 cases h
theorem tV.Vh{x:qR}{d:ab}(P:tV b x B d R):d.length=x.ht*rowOf x.f x.wd:=by rw[XL P.rows,lP]
theorem tV.row{x:qR}{d:ab}(P:tV b x B d R):R.length=x.ht/\(∀r∈R,r.length=3*x.wd)/\(∀r∈R,AL x.f x.wd r)/\allM (F8 x.f x.pal x.wd) R=some (fi (rowOf x.f x.wd) x.ht d):=by
 obtain⟨h1,h2⟩:=vq P.pix;rw[qE]at h1;have key:∀(i:Nat) (r:ab),R[i]?=some r->r.length=3*x.wd/\AL x.f x.wd r/\∃y,(fi (rowOf x.f x.wd) x.ht d)[i]?=some y/\F8 x.f x.pal x.wd r=some y:=by intro i r hi;obtain⟨hlt,_⟩:=dH.1 hi;have hy:(fi (rowOf x.f x.wd) x.ht d)[i]?=some ((fi (rowOf x.f x.wd) x.ht d)[i]'(by rw[qE];omega)):=bz _;obtain⟨a,b,c⟩:=Qv P.fl.1 P.pal (JG P.Vh (jX hy)) (h2 i _ _ hy hi);exact⟨a,b,_,hy,c⟩
 refine⟨h1,λr hr=>?_,λr hr=>?_,?_⟩
 ·obtain⟨i,hi,rfl⟩:=Ji.1 hr;exact(key i _ (bz hi)).1
 ·obtain⟨i,hi,rfl⟩:=Ji.1 hr;exact(key i _ (bz hi)).2.1
 refine xj (by rw[qE,h1]) λi r y hr hy=>?_;obtain⟨_,_,y',UY,hw⟩:=key i r hr;rw[hy]at UY;cases UY;exact hw
theorem tV.EY{x:qR}{d:ab}(P:tV b x B d R):x.px.length=x.ht*(3*x.wd)/\fi (3*x.wd) x.ht x.px=turn x.f R:=by obtain⟨r1,r2,_⟩:=P.row;have:=AK (s:=3*x.wd) (R:=turn x.f R) λr hr=>r2 r (VE.1 hr);rw[YW,r1,<-P.px]at this;exact this
theorem tV.write{x:qR}{d:ab}(P:tV b x B d R):Oo x.f x.pal x.wd x.ht x.px=some b:=by obtain⟨r1,r2,r3,r4⟩:=P.row;unfold Oo Wz;rw[P.EY.2,YX,r4];simp only;rw[Pg P.Vh,<-ajn P.rows,<-P.eq]
theorem Wy{pal:List cd}(h:p9 f)(hp:mW f pal):IZ (mN f pal)=some (f,pal):=by
 unfold mN;split
 ·rename_i e;subst e;rw[hp.non aa];rfl
 rename_i e;have h1:=h.1;have e1:(aD f).toNat=f:=by rw[kt];omega
 unfold IZ;simp only;rw[e1,ag ⟨h,e⟩];have:=akw [] hp;rw[aZ]at this;rw[this]
theorem ahx{w h:Nat}(h1:nK w)(h2:nK h)(h3:b.length=3*w*h):BH (kp w h b)=some (w,h,b):=by
 unfold BH;show(if Kw (kp w h b) (.mk 1 w [] [] []) (.mk 1 h [] [] []) (.mk 2 0 b [] [])then _ else _)=_;unfold nK at h1 h2;rw[ag]
 ·simp
 exact⟨rfl,rfl,rfl,rfl,rfl,by show(1:Int)<=w/\(w:Int)<=64;omega,by show(1:Int)<=h/\(h:Int)<=64;omega,by show b.length=3*(w:Int).toNat*(h:Int).toNat;simpa using h3⟩
theorem WA(h:fh b=some (v,r)):∃x,nF b=some x/\(ct v).1=0/\v=kp x.wd x.ht x.px/\r=mN x.f x.pal:=by
 unfold fh at h;split at h
 ·cases h
 rename_i x hx;split at h
 ·cases h
 rename_i h0;cases h;exact⟨x,hx,Decidable.not_not.1 h0,rfl,rfl⟩
theorem ahy(hl:b.length<=1000)(h:fh b=some (v,r)):EV v r=some b:=by
 obtain⟨x,hx,hv0,hv,hr⟩:=WA h;obtain⟨B,d,R,P⟩:=IY hx;have hsh:BH v=some (x.wd,x.ht,x.px):=by rw[hv];exact ahx P.wd P.ht (by rw[P.EY.1];simp[lP,Nat.mul_left_comm])
 unfold EV;rw[hsh,hr,Wy P.fl P.pal];simp only;rw[P.write];simp only;rw[ag ⟨hl,by rw[<-hr];exact h⟩]
def Ti(f w h:Nat)(px:ab):Prop:=∀r∈fi (3*w) h px,AL f w r
instance(f w h:Nat)(px:ab):Decidable (Ti f w h px):=by unfold Ti;infer_instance
theorem acE(wd ht:Int)(b:ab):enc (kp wd ht b)=az 4++(az 3++(eh va++(az 1++az wd)++(eh u7++(az 1++az ht))++(eh u9++(az 2++eh b)))):=by rw[Ay];simp only[ao.kind,ao.num,ao.bytes,ao.names,ao.parts];rw[ae ai,ae ai];simp only[mE,BV,List.zipIdx_nil,bD,eL,acC,acz];simp
theorem abw(wd ht:Int)(b:ab):gz 0 (kp wd ht b) 0=.ok 4:=by
 have e:pre 0 (kp wd ht b)=[(kp wd ht b,0),(.mk 1 wd [] [] [],1),(.mk 1 ht [] [] [],1),(.mk 2 0 b [] [],1)]:=by rw[wB];simp[wB]
 have n1:∀n:Int,dP (.mk 1 n [] [] [])=0:=λn=>by simp[dP,jA,ao.kind,ao.num,ao.bytes,ao.names,ao.parts]
 have n2:dP (.mk 2 0 b [] [])=0:=by simp[dP,jA,ao.kind,ao.num,ao.bytes,ao.names,ao.parts]
 have n3:dP (kp wd ht b)=0:=by
  unfold dP;rw[ae (by simp[ao.kind]),ae (by simp[jA,ao.kind,ao.num,ao.bytes,ao.names,ao.parts]),ae (by simp[ao.parts]),ae (by
   show ¬ [va,u7,u9].any (λs=>!cX s)=true;decide),ae (by
   show ¬ ¬ [va,u7,u9].Nodup;decide)]
 unfold gz;rw[e];simp[scan,gy,n1,n2,n3]
theorem amm(h3:4000<b.length):(ct (kp wd ht b)).1≠0:=by have hl:=ax bU (acE wd ht b);have:=WM b;simp only[ak]at hl;unfold ct;rw[abw];simp only;rw[ag aa];decide
theorem afN(hf:f<64)(h16:f%16<4):Bi f n=[]↔f=48:=by
 have hb:bitsOf f=24↔f/16=3:=by
  unfold bitsOf;split
  ·omega
  split
  ·omega
  split<;>omega
 unfold Bi;constructor
 ·intro h;obtain⟨h,h4⟩:=BT.1 h;obtain⟨h,h3⟩:=BT.1 h;obtain⟨h1,h2⟩:=BT.1 h;split at h1
  ·split at h2
   ·cases h2
   split at h3
   ·cases h3
   have:=hb.1 (by assumption);omega
  cases h1
 rintro rfl;simp[bitsOf]
theorem afM(f n:Nat):(Bi f n).length<=4:=by unfold Bi;simp only[ak];split<;>split<;>split<;>split<;>simp
theorem ahw{pal:List cd}:mN f pal=[]↔f=48:=by
 unfold mN;split
 ·rename_i h;exact⟨λ_=>h,λ_=>rfl⟩
 rename_i h;exact⟨λq=>absurd q ah,λq=>absurd q h⟩
theorem ahv{pal:List cd}(hp:mW f pal):(mN f pal).length<=50:=by
 have:=PF hp;unfold mN;split
 ·simp
 simp;omega
theorem ahA(hl:b.length<=1000)(h:fh b=some (v,r)):VB 1048576 v/\(ct v).1=0/\(BH v).isSome=true/\EV v r=some b/\r.length<=100000000/\∃ls,Wx r=some ls/\ls.length<=4/\(ls=[]↔r=[]):=by
 have fM:=ahy hl h;obtain⟨x,hx,hv0,hv,hr⟩:=WA h;obtain⟨B,d,R,P⟩:=IY hx;obtain⟨w1,w2⟩:=P.wd;obtain⟨h1,h2⟩:=P.ht;have k8:=P.EY.1;have hm:x.ht*(3*x.wd)<=64*192:=mg h2 aa;have:=ahv P.pal;refine⟨?_,hv0,?_,fM,by rw[hr];omega,Bi x.f x.pal.length,?_,afM _ _,?_⟩
 ·rw[hv];exact Qj (by constructor<;>omega) (by constructor<;>omega) aa
 ·cases hs:BH v with
  | none=>unfold EV at fM;rw[hs]at fM;cases fM
  | some y=>rfl
 ·rw[hr];unfold Wx;rw[Wy P.fl P.pal]
 rw[hr,afN P.fl.1 P.fl.2,ahw]
abbrev bQ:=ab×Bool
def aY(n:Nat):UInt8:=if n=0 then 44 else if n=1 then 59 else 9
def cy(k:Bool):ab:=if k=true then[13,10]else[10]
def lT(s c:UInt8):Bool:=decide (c=s)||decide (c=34)||decide (c=13)||decide (c=10)
def eR(s:UInt8)(x:ab):Bool:=x.any (lT s)
def kU:ab->ab
 | []=>[]
 | c::t=>if c=34 then 34::34::kU t else c::kU t
def tu(c:bQ):ab:=if c.2=true then 34::(kU c.1++[34])else c.1
def wj(s:UInt8)(c:bQ):Prop:=c.2=true\/eR s c.1=false
def lh(s:UInt8):List bQ->ab
 | []=>[]
 | [c]=>tu c
 | c::d::r=>tu c++s::lh s (d::r)
def j6(s:UInt8)(e:ab)(o:Bool):List (List bQ)->ab
 | []=>[]
 | [r]=>lh s r++(if o=true then[]else e)
 | r::q::R=>lh s r++(e++j6 s e o (q::R))
def eM:ab->Option (ab×ab)
 | []=>none
 | [c]=>if c=34 then some ([],[])else none
 | c::d::t=>if c=34 then(if d=34 then(match eM t with
   | none=>none
   | some p=>some (34::p.1,p.2))else some ([],d::t))else(match eM (d::t)with
   | none=>none
   | some p=>some (c::p.1,p.2))
def jf(s:UInt8):ab->ab×ab
 | []=>([],[])
 | c::t=>if lT s c=true then([],c::t)else(c::(jf s t).1,(jf s t).2)
def kO(s:UInt8)(l:ab):Option (bQ×ab) :=
 if l.head?=some 34 then(match eM l.tail with
  | none=>none
  | some p=>some ((p.1,true),p.2))
 else if(jf s l).2.head?=some 34 then none else some (((jf s l).1,false),(jf s l).2)
theorem Fs:∀ {l x t:ab},eM l=some (x,t)->l=kU x++34::t/\t.head?≠some 34
 | [],x,t,h=>by cases h
 | [c],x,t,h=>by
  unfold eM at h;split at h
  ·rename_i hc;cases h;rw[hc];exact⟨rfl,ah⟩
  cases h
 | c::d::r,x,t,h=>by
  unfold eM at h;split at h
  ·rename_i hc;split at h
   ·rename_i hd;split at h
    ·cases h
    rename_i p hp;cases h;obtain⟨h1,h2⟩:=Fs (x:=p.1) (t:=p.2) hp;refine⟨?_,h2⟩;rw[hc,hd,kU,ag rfl,h1];rfl
   rename_i hd;cases h;rw[hc];exact⟨rfl,by simpa using hd⟩
  rename_i hc;split at h
  ·cases h
  rename_i p hp;cases h;obtain⟨h1,h2⟩:=Fs (x:=p.1) (t:=p.2) hp;refine⟨?_,h2⟩;rw[kU,ae hc,h1];rfl
theorem Xz:∀(x:ab) {t:ab},t.head?≠some 34->eM (kU x++34::t)=some (x,t)
 | [],[],_=>rfl
 | [],d::t,h=>by show eM (34::d::t)=_;unfold eM;rw[ag rfl,ae (by simpa using h)]
 | c::x,t,h=>by
  have ih:=Xz x h;unfold kU;split
  ·rename_i hc;show eM (34::34::(kU x++34::t))=_;unfold eM;rw[ag rfl,ag rfl,ih,hc]
  rename_i hc;show eM (c::(kU x++34::t))=_;obtain⟨d,r,hd⟩:∃d r,kU x++34::t=d::r:=by
   cases he:kU x++34::t with
   | nil=>simp at he
   | cons d r=>exact⟨d,r,rfl⟩
  rw[hd]at ih |-;unfold eM;rw[ae hc,ih]
theorem FR(s:UInt8):∀(l:ab),l=(jf s l).1++(jf s l).2/\eR s (jf s l).1=false
 | []=>⟨rfl,rfl⟩
 | c::t=>by
  unfold jf;obtain⟨h1,h2⟩:=FR s t;split
  ·exact⟨rfl,rfl⟩
  rename_i hc;refine⟨by(conv=>lhs;rw[h1]);rfl,?_⟩;unfold eR at h2 |-;rw[List.any_cons,h2];simpa using hc
theorem J1{s:UInt8}:∀ {x t:ab},eR s x=false->(t=[]\/∃h r,t=h::r/\lT s h=true)->jf s (x++t)=(x,t)
 | [],t,_,h=>by
  rcases h with rfl|⟨c,r,rfl,hc⟩
  ·rfl
  show jf s (c::r)=_;unfold jf;rw[ag hc]
 | c::x,t,hn,h=>by unfold eR at hn;rw[List.any_cons,Bool.or_eq_false_iff]at hn;have ih:=J1 (x:=x) hn.2 h;show jf s (c::(x++t))=_;unfold jf;rw[ae (by rw[hn.1];decide),ih]
theorem Xv{s:UInt8}{l:ab}{c:bQ}{t:ab}(h:kO s l=some (c,t)):l=tu c++t/\wj s c/\t.head?≠some 34:=by
 unfold kO at h;split at h
 ·rename_i hh;split at h
  ·cases h
  rename_i p hp;cases h;obtain⟨h1,h2⟩:=Fs (x:=p.1) (t:=p.2) hp;refine⟨?_,.inl rfl,h2⟩;cases l with
  | nil=>cases hh
  | cons d l =>cases hh;rw[mf]at h1;rw[h1];simp[tu]
 split at h
 ·cases h
 rename_i h2;cases h;obtain⟨h3,h4⟩:=FR s l;exact⟨h3,.inr h4,h2⟩
theorem Jq{s:UInt8}{l:ab}{c:bQ}{t:ab}(h:kO s l=some (c,t)):t.length<=l.length:=by rw[(Xv h).1,ak];omega
def pF(s:UInt8)(e:ab):Nat->List (List bQ)->List bQ->ab->Option (List (List bQ)×Bool)
 | 0,_,_,_=>none
 | n+1,R,r,l=>match kO s l with
  | none=>none
  | some (c,t)=>if t=[]then some (R++[r++[c]],true)
   else if t.take e.length=e then(if t.drop e.length=[]then some (R++[r++[c]],false)else pF s e n (R++[r++[c]]) [] (t.drop e.length))
   else if t.head?=some s then pF s e n R (r++[c]) t.tail else none
theorem Ju{s:UInt8}{e:ab}(he:e≠[]):∀ {n m:Nat} {R:List (List bQ)} {r:List bQ} {l:ab},l.length<n->l.length<m->pF s e n R r l=pF s e m R r l
 | 0,m,R,r,l,h,_=>by omega
 | n+1,0,R,r,l,_,h=>by omega
 | n+1,m+1,R,r,l,h1,h2=>by
  have hel:=iC.2 he;unfold pF;cases hc:kO s l with
  | none=>rfl
  | some p =>
   obtain⟨c,t⟩:=p;have hl:=Jq hc;simp only;by_cases ht:t=[]
   ·rw[ag ht,ag ht]
   have htl:=iC.2 ht;rw[ae ht,ae ht];by_cases h3:t.take e.length=e
   ·rw[ag h3,ag h3];by_cases h4:t.drop e.length=[]
    ·rw[ag h4,ag h4]
    rw[ae h4,ae h4];exact Ju he (by rw[aU];omega) (by rw[aU];omega)
   rw[ae h3,ae h3];by_cases h4:t.head?=some s
   ·rw[ag h4,ag h4];exact Ju he (by rw[List.length_tail];omega) (by rw[List.length_tail];omega)
   rw[ae h4,ae h4]
def lp(s:UInt8)(e:ab)(R:List (List bQ))(r:List bQ)(l:ab):Option (List (List bQ)×Bool):=pF s e (l.length+1) R r l
def sD(s:UInt8)(e:ab)(R:List (List bQ))(l:ab):Option (List (List bQ)×Bool):=if l=[]then some (R,false)else lp s e R [] l
section
variable{s:UInt8}{e:ab}{R:List (List bQ)}{r:List bQ}{l t:ab}{c:bQ}
theorem Fp(h:kO s l=none):lp s e R r l=none:=by unfold lp pF;rw[h]
theorem B5(h:kO s l=some (c,[])):lp s e R r l=some (R++[r++[c]],true):=by unfold lp pF;rw[h];rfl
theorem u6(he:e≠[])(h:kO s l=some (c,t))(h2:t.take e.length=e):lp s e R r l=sD s e (R++[r++[c]]) (t.drop e.length):=by
 have hel:=iC.2 he;have hl:=Jq h;have htl:0<t.length:=by have:=ax bU h2;rw[bg]at this;omega
 unfold lp pF;rw[h];simp only;rw[ae (List.ne_nil_of_length_pos htl),ag h2];unfold sD;by_cases h4:t.drop e.length=[]
 ·rw[ag h4,ag h4]
 rw[ae h4,ae h4];unfold lp;exact Ju he (by rw[aU];omega) aa
theorem B6(he:e≠[])(h:kO s l=some (c,s::t))(h2:(s::t).take e.length≠e):lp s e R r l=lp s e R (r++[c]) t:=by
 have hl:=Jq h;rw[aq]at hl;unfold lp;conv=>lhs;unfold pF
 rw[h];simp only;rw[ae ah,ae h2,ag List.head?_cons,mf];exact Ju he aa aa
theorem nH(h:kO s l=some (c,t))(h1:t≠[])(h2:t.take e.length≠e)(h3:t.head?≠some s):lp s e R r l=none:=by unfold lp pF;rw[h];simp only;rw[ae h1,ae h2,ae h3]
end
structure aah(s:UInt8)(e:ab)(R:List (List bQ))(r:List bQ)(l:ab)(X:List (List bQ))(o:Bool):Prop where
 ex:∃(q:List bQ) (Q:List (List bQ)),q≠[]/\X=R++(r++q)::Q/\l=j6 s e o (q::Q)/\(∀a∈q::Q,a≠[]/\∀c∈a,wj s c)
theorem O6{s:UInt8}{e:ab}:∀ {n:Nat} {R:List (List bQ)} {r:List bQ} {l:ab} {X:List (List bQ)} {o:Bool},pF s e n R r l=some (X,o)->aah s e R r l X o
 | 0,R,r,l,X,o,h=>by cases h
 | n+1,R,r,l,X,o,h=>by
  unfold pF at h;split at h
  ·cases h
  rename_i c t hc;obtain⟨h1,h2,h3⟩:=Xv hc;have hone:∀a∈[[c]],a≠[]/\∀x∈a,wj s x:=λa ha=>by rw[cz.1 ha];exact⟨ah,λx hx=>by rw[cz.1 hx];exact h2⟩
  split at h
  ·rename_i ht;cases h;exact⟨[c],[],ah,rfl,by rw[h1,ht];rfl,hone⟩
  split at h
  ·rename_i h4;have jG:t=e++t.drop e.length:=by conv=>lhs;rw[<-eW e.length t,h4]
   split at h
   ·rename_i h5;cases h;refine⟨[c],[],ah,rfl,?_,hone⟩;rw[h1,jG,h5,aZ];rfl
   obtain⟨q,Q,q1,q2,q3,q4⟩:=(O6 h).ex;refine⟨[c],q::Q,ah,?_,?_,λa ha=>?_⟩
   ·rw[q2,bj,aL];rfl
   ·conv=>lhs;rw[h1,jG,q3]
    rfl
   rcases bP.1 ha with rfl|ha
   ·exact hone _ ah
   exact q4 a ha
  split at h
  ·rename_i h5;have jG:t=s::t.tail:=by
    cases t with
    | nil=>cases h5
    | cons d t=>cases h5;rfl
   obtain⟨q,Q,q1,q2,q3,q4⟩:=(O6 h).ex;refine⟨c::q,Q,ah,?_,?_,λa ha=>?_⟩
   ·rw[q2,bj];rfl
   ·rw[h1,jG,q3];have e1:lh s (c::q)=tu c++s::lh s q:=by
     cases q with
     | nil=>exact absurd rfl q1
     | cons d q=>rfl
    cases Q with
    | nil =>show _=lh s (c::q)++_;rw[e1];simp[j6]
    | cons p Q =>show _=lh s (c::q)++_;rw[e1];simp[j6]
   rcases bP.1 ha with rfl|ha
   ·refine⟨ah,λx hx=>?_⟩;rcases bP.1 hx with rfl|hx
    ·exact h2
    exact(q4 q ah).2 x hx
   exact q4 a (by simp[ha])
  cases h
def ie(s:UInt8)(e:ab)(l:ab):Option (List (List bQ)×Bool):=sD s e [] l
theorem B3{s:UInt8}{e l:ab}{X:List (List bQ)}{o:Bool}(h:ie s e l=some (X,o)):l=j6 s e o X/\∀a∈X,a≠[]/\∀c∈a,wj s c:=by
 unfold ie sD at h;split at h
 ·rename_i hl;cases h;exact⟨hl,ah⟩
 obtain⟨q,Q,q1,q2,q3,q4⟩:=(O6 h).ex;rw[q2];exact⟨q3,q4⟩
def qn(s:UInt8):Nat->List bQ->au
 | _,[]=>[]
 | k,c::r=>(if(c.2&&!eR s c.1)=true then[k]else[])++qn s (k+1) r
theorem O2{s:UInt8}{c:bQ}:∀ {r:List bQ} {k:Nat},qn s k (r++[c])=qn s k r++(if(c.2&&!eR s c.1)=true then[k+r.length]else[])
 | [],k=>by simp[qn]
 | d::r,k=>by show(if _ then[k]else[])++qn s (k+1) (r++[c])=_;rw[O2 (r:=r),qn,bj,aq];simp only[sq,Nat.add_left_comm]
theorem O0{s:UInt8}:∀ {r:List bQ} {k j:Nat},j∈qn s k r↔∃i c,r[i]?=some c/\j=k+i/\(c.2&&!eR s c.1)=true
 | [],k,j=>by simp[qn]
 | d::r,k,j=>by
  unfold qn;rw[cc,O0 (r:=r)];constructor
  ·rintro(h|⟨i,c,h1,h2,h3⟩)
   ·split at h
    ·rename_i hd;exact⟨0,d,rfl,by simpa using h,hd⟩
    simp at h
   exact⟨i+1,c,h1,aa,h3⟩
  rintro⟨i,c,h1,h2,h3⟩;cases i with
  | zero =>cases h1;left;rw[ag h3];simpa using h2
  | succ i=>exact .inr ⟨i,c,h1,aa,h3⟩
theorem Xn{s:UInt8}:∀ {r:List bQ} {k:Nat},(qn s k r).Pairwise (· < ·)/\∀n∈qn s k r,k<=n/\n<k+r.length
 | [],k=>by simp[qn]
 | d::r,k=>by
  obtain⟨h1,h2⟩:=Xn (s:=s) (r:=r) (k:=k+1);unfold qn;split
  ·refine⟨List.pairwise_cons.2 ⟨λn hn=>?_,h1⟩,λn hn=>?_⟩
   ·have:=h2 n hn;omega
   rcases bP.1 hn with rfl|hn
   ·simp
   have:=h2 n hn;simp only[aq];omega
  refine⟨h1,λn hn=>?_⟩;have:=h2 n hn;simp only[aq];omega
theorem OZ{s:UInt8}:∀ {r:List bQ} {k:Nat},(qn s k r).length<=r.length
 | [],_=>by simp[qn]
 | d::r,k=>by have:=OZ (s:=s) (r:=r) (k:=k+1);unfold qn;split<;>simp<;>omega
def Qt(s:UInt8)(Z:au)(k:Nat)(x:ab):bQ:=(x,eR s x||Z.contains k)
def EC(s:UInt8)(Z:au):Nat->bf->List bQ
 | _,[]=>[]
 | k,x::r=>Qt s Z k x::EC s Z (k+1) r
def EB(s:UInt8)(Z:au):Nat->List bf->List (List bQ)
 | _,[]=>[]
 | k,r::R=>EC s Z k r::EB s Z (k+r.length) R
theorem VC{s:UInt8}{Z:au}:∀ {r:List bQ} {k:Nat},(∀i c,r[i]?=some c->Z.contains (k+i)=(c.2&&!eR s c.1))->(∀c∈r,wj s c)->EC s Z k (r.map Prod.fst)=r
 | [],_,_,_=>rfl
 | c::r,k,h,hok=>by
  show Qt s Z k c.1::EC s Z (k+1) (r.map Prod.fst)=_;rw[VC (r:=r) (λi d hd=>by have:=h (i+1) d hd;rwa [show k+(i+1)=k+1+i by omega]at this) λd hd=>hok d (by simp[hd])]
  have h0:=h 0 c rfl;rw[ln]at h0;congr 1;obtain⟨x,q⟩:=c;unfold Qt;rw[h0];rcases hok (x,q) ah with h1|h1
  ·dsimp only at h1 |-;rw[h1];cases eR s x<;>rfl
  dsimp only at h1 |-;rw[h1];simp
theorem VA{s:UInt8}{Z:au}:∀ {R:List (List bQ)} {k:Nat},(∀i c,R.flatten[i]?=some c->Z.contains (k+i)=(c.2&&!eR s c.1))->(∀r∈R,∀c∈r,wj s c)->EB s Z k (R.map λr=>r.map Prod.fst)=R
 | [],_,_,_=>rfl
 | r::R,k,h,hok=>by
  show EC s Z k (r.map Prod.fst)::EB s Z (k+(r.map Prod.fst).length) (R.map λr=>r.map Prod.fst)=_
  rw[aW,VC (λi c hc=>h i c (by rw[pC,qx (dH.1 hc).1];exact hc)) (hok r ah),
   VA (R:=R) (λi c hc=>by have:=h (r.length+i) c (by rw[pC,List.getElem?_append_right aa,show r.length+i-r.length=i by omega];exact hc);rwa [<-wM]at this) λq hq=>hok q (by simp[hq])]
theorem agb{s:UInt8}{R:List (List bQ)}(hok:∀r∈R,∀c∈r,wj s c):EB s (qn s 0 R.flatten) 0 (R.map λr=>r.map Prod.fst)=R :=
 VA (λi c hc=>by
  by_cases h:(c.2&&!eR s c.1)=true
  ·rw[h,sf];exact O0.2 ⟨i,c,hc,rfl,h⟩
  rw[ah4.2 h,ah4];intro h2;rw[sf]at h2;obtain⟨j,d,h3,h4,h5⟩:=O0.1 h2;obtain rfl:i=j:=aa;rw[hc]at h3;cases h3;exact h h5) hok
abbrev nz(Z:au):List Int:=Z.map λ(n:Nat)=>(n:Int)
abbrev pT:=List bf
abbrev xu(x:ab):ao:=.mk 2 0 x [] []
abbrev wP(r:bf):ao:=.mk 3 0 [] [] (r.map xu)
abbrev mm(T:pT):ao:=.mk 3 0 [] [] (T.map wP)
abbrev iF(R:List (List bQ)):pT:=R.map λr=>r.map Prod.fst
def lA(fl:Nat)(Z:au):ab:=if fl=0/\Z=[]then[]else az fl++cm az (nz Z)
def gu(n:Nat)(k o:Bool):Nat:=n+(if k=true then 3 else 0)+(if o=true then 6 else 0)
def lz(k:Bool)(R:List (List bQ))(o:Bool):Bool:=decide (0<R.length)&&decide (2<=(R.headD []).length)&&(!k||decide (1<R.length)||!o)
def dx(i:Nat):Bool:=decide (i%2=1)
def fD(i:Nat)(l:ab):Option (List (List bQ)×Bool):=match ie (aY (i/2)) (cy (dx i)) l with
 | none=>none
 | some (R,o)=>if lz (dx i) R o=true then some (R,o)else none
def wX(l:ab):Nat->Option (Nat×List (List bQ)×Bool)
 | 0=>none
 | n+1=>match fD (5-n) l with
  | some x=>some (5-n,x)
  | none=>wX l n
def tO(l:ab):Option (Nat×List (List bQ)×Bool):=wX l 6
def tN(i:Nat)(R:List (List bQ))(o:Bool):Option (ao×ab):=if(ct (mm (iF R))).1=0 then some (mm (iF R),lA (gu (i/2) (dx i) o) (qn (aY (i/2)) 0 R.flatten))else none
def gU(l:ab):Option (ao×ab):=match tO l with
 | none=>none
 | some (i,R,o)=>tN i R o
def cellOf(c:ao):fV:=if c.kind=2 then some c.bytes else none
def Pe(r:ao):Option bf:=if r.kind=3/\r.parts≠[]then allM cellOf r.parts else none
def wZ(v:ao):Option pT:=if v.kind=3/\v.parts≠[]then allM Pe v.parts else none
def EP(z:List Int):Prop:=(∀n∈z,0<=n/\n<=1000)/\z.Pairwise (· < ·)
instance(z:List Int):Decidable (EP z):=by unfold EP;infer_instance
def PM(b:ab):Option (Int×List Int):=match fN b 0 with
 | .bad _ _=>none
 | .ok c p=>match iZ b (fN b) 1000 p with
  | .bad _ _=>none
  | .ok z q=>if q=b.length then some (c,z)else none
def FQ(b:ab):Option (Nat×au):=if b=[]then some (0,[])else match PM b with
 | none=>none
 | some (c,z)=>if(0<=c/\c<12)/\¬(c=0/\z=[])/\EP z then some (c.toNat,z.map gR)else none
def wY(fl:Nat)(Z:au)(T:pT):ab:=j6 (aY (fl%3)) (cy (decide (fl/3%2=1))) (decide (6<=fl)) (EB (aY (fl%3)) Z 0 T)
noncomputable def Cl(v:ao)(b:ab):fV:=match wZ v with
 | none=>none
 | some T=>match FQ b with
  | none=>none
  | some (fl,Z)=>if(wY fl Z T).length<=1000/\gU (wY fl Z T)=some (v,b)then some (wY fl Z T)else none
abbrev af1:ab:=[115,101,112,97,114,97,116,111,114]
abbrev afU:ab:=[99,97,114,114,105,97,103,101,32,114,101,116,117,114,110,32,97,110,100,32,108,105,110,101,32,102,101,101,100]
abbrev afX:ab:=[111,112,101,110,32,101,110,100]
abbrev afY:ab:=[113,117,111,116,101,100,32,99,101,108,108,115]
def Ex(fl n:Nat):List pN:=(if fl%3≠0 then[(af1,((fl%3:Nat):Int))]else[])++(if fl/3%2=1 then[(afU,1)]else[])++(if 6<=fl then[(afX,1)]else[])++(if 0<n then[(afY,(n:Int))]else[])
def YH(b:ab):Option (List pN):=match FQ b with
 | none=>none
 | some (fl,Z)=>some (Ex fl Z.length)
theorem agV(Z:au):(nz Z).map gR=Z:=by
 unfold nz;rw[pD];conv=>rhs;rw[<-ze Z]
 exact qz λx _=>by simp
theorem akE(hf:fl<1000)(hl:Z.length<=1000)(hz:∀n∈Z,n<=1000):PM (az fl++cm az (nz Z))=some ((fl:Int),nz Z):=by
 obtain⟨b,hb⟩:∃b,b=az (fl:Int)++cm az (nz Z):=⟨_,rfl⟩
 rw[<-hb];have e1:b=[]++(az (fl:Int)++cm az (nz Z)):=by rw[hb];rfl
 have n1:=mM (n:=(fl:Int)) aa aa [] (cm az (nz Z));rw[<-e1]at n1;have e2:b=az (fl:Int)++(az ((nz Z).length:Int)++((nz Z).flatMap az++[])):=by rw[hb,cm,aZ]
 have dK:(nz Z).length=Z.length:=ah;have n2:=mM (n:=((nz Z).length:Int)) aa aa (az (fl:Int)) ((nz Z).flatMap az++[]);rw[<-e2]at n2;have hbl:=ax bU e2;simp only[ak,aK]at hbl;have n3:=Bl (f:=az) (b:=b) (one:=fN b) (nz Z) ((az (fl:Int)).length+(az ((nz Z).length:Int)).length) aa (λx hx q r hq hd=>by
  obtain⟨n,hn,rfl⟩:=cJ.1 hx;have:=hz n hn;have e:b=b.take q++(az (n:Int)++r):=by rw[<-hd,eW]
  have cD:(b.take q).length=q:=by simp;omega
  have:=mM (n:=(n:Int)) aa aa (b.take q) r;rwa [cD,<-e]at this) [] (by
   rw[<-gK];conv=>lhs;rw[e2]
   rw[kN,kN])
 unfold PM;simp only[aK,dR]at n1;rw[n1];simp only;unfold iZ;rw[n2];simp only;rw[ae aa,jr,n3];simp only;rw[ag aa]
theorem YI(hf:fl<12)(hl:Z.length<=1000)(hz:EP (nz Z)):FQ (lA fl Z)=some (fl,Z):=by
 unfold lA;split
 ·rename_i h;obtain⟨rfl,rfl⟩:=h;rfl
 rename_i hne;unfold FQ;rw[ae,akE aa hl λn hn=>by have:=hz.1 (n:Int) (cJ.2 ⟨n,hn,rfl⟩);omega]
 ·simp only;rw[ag,jr,agV];refine⟨aa,λq=>hne ⟨aa,?_⟩,hz⟩;have:=q.2;simpa [nz]using this
 intro h;have:=ax bU h;have:=qq (zz (fl:Int));simp only[ak,az,aK]at *;omega
theorem akG :lA fl Z=[]↔fl=0/\Z=[]:=by
 unfold lA;constructor
 ·intro h;split at h
  ·assumption
  have:=ax bU h;have:=qq (zz (fl:Int));simp only[ak,az,aK]at *;omega
 intro h;rw[ag h]
theorem afP(hf:fl<12):Ex fl n=[]↔fl=0/\n=0:=by
 unfold Ex;by_cases h1:fl%3=0
 ·by_cases h2:fl/3%2=1
  ·simp[h1,h2];omega
  by_cases h3:6<=fl
  ·simp[h3];omega
  by_cases h4:0<n
  ·simp[h4];omega
  simp[h1,h2,h3,h4];omega
 simp[h1];omega
theorem afO(fl n:Nat):(Ex fl n).length<=4:=by unfold Ex;simp only[ak];split<;>split<;>split<;>split<;>simp
theorem Ow(hl:Z.length<=1000)(hz:∀n∈Z,n<=1000):(cm az (nz Z)).length<=10010:=by
 have:=wD (f:=az) (m:=10) (l:=nz Z) (by simp;omega) λx hx=>by obtain⟨n,hn,rfl⟩:=cJ.1 hx;have:=hz n hn;exact dq aa aa
 simp only[aW]at this;omega
theorem akF(hf:fl<1000)(hl:Z.length<=1000)(hz:∀n∈Z,n<=1000):(lA fl Z).length<=10020:=by
 have h1:=Ow hl hz;have h2:=dq (n:=(fl:Int)) aa aa;unfold lA;split
 ·simp
 rw[ak];omega
theorem YG{l:ab}{i:Nat}{R:List (List bQ)}{o:Bool}:∀ {n:Nat},wX l n=some (i,R,o)->i<6/\fD i l=some (R,o)
 | 0,h=>by cases h
 | n+1,h=>by
  unfold wX at h;split at h
  ·rename_i x hx;cases h;exact⟨aa,hx⟩
  exact YG h
theorem akJ{R:List (List bQ)}(h:fD i l=some (R,o)):ie (aY (i/2)) (cy (dx i)) l=some (R,o)/\lz (dx i) R o=true:=by
 unfold fD at h;split at h
 ·cases h
 rename_i R' o' hr;split at h
 ·rename_i hs;cases h;exact⟨hr,hs⟩
 cases h
theorem wW(h:n<3)(k o:Bool):gu n k o<12/\gu n k o%3=n/\decide (gu n k o/3%2=1)=k/\decide (6<=gu n k o)=o:=by unfold gu;cases k<;>cases o<;>simp<;>omega
theorem Wf(c:bQ):c.1.length<=(tu c).length:=by
 have he:∀x:ab,x.length<=(kU x).length:=by
  intro x;induction x with
  | nil=>simp[kU]
  | cons d x ih=>unfold kU;split<;>simp<;>omega
 unfold tu;split
 ·have:=he c.1;simp only[aq,ak];omega
 exact aQ _
theorem Oi(s:UInt8):∀(r:List bQ),r.length<=(lh s r).length+1/\∀c∈r,c.1.length<=(lh s r).length
 | []=>by simp
 | [c]=>⟨ah,λd hd=>by rw[cz.1 hd];exact Wf c⟩
 | c::d::r=>by
  obtain⟨h1,h2⟩:=Oi s (d::r);have h3:=Wf c;refine⟨?_,λx hx=>?_⟩
  ·simp only[lh,ak,aq]at h1 |-;omega
  have e:(lh s (c::d::r)).length=(tu c).length+((lh s (d::r)).length+1):=by simp[lh]
  rw[e];rcases bP.1 hx with rfl|hx
  ·omega
  have:=h2 x hx;omega
theorem xK{s:UInt8}{e:ab}(he:e≠[])(o:Bool):∀(R:List (List bQ)),R.flatten.length<=(j6 s e o R).length+1/\(∀r∈R,∀c∈r,c.1.length<=(j6 s e o R).length)/\R.length<=(j6 s e o R).length+1
 | []=>by simp
 | [r]=>by
  obtain⟨h1,h2⟩:=Oi s r;have e1:(j6 s e o [r]).length=(lh s r).length+(if o=true then[]else e).length:=by simp[j6]
  rw[e1];refine⟨by simp;omega,λq hq c hc=>?_,ah⟩;rw[cz.1 hq]at hc;have:=h2 c hc;omega
 | r::q::R=>by
  obtain⟨h1,h2⟩:=Oi s r;obtain⟨h3,h4,h5⟩:=xK (s:=s) he o (q::R);have hel:=iC.2 he;have e1:(j6 s e o (r::q::R)).length=(lh s r).length+(e.length+(j6 s e o (q::R)).length):=by simp[j6]
  rw[e1];refine⟨?_,λa ha c hc=>?_,?_⟩
  ·rw[pC,ak];omega
  ·rcases bP.1 ha with rfl|ha
   ·have:=h2 c hc;omega
   have:=h4 a ha c hc;omega
  simp only[aq]at h5 |-;omega
theorem OY{s:UInt8}{b:List bQ}:∀ {a:List bQ} {k:Nat},qn s k (a++b)=qn s k a++qn s (k+a.length) b
 | [],k=>rfl
 | c::a,k=>by show _++qn s (k+1) (a++b)=_;rw[OY (a:=a),qn,bj,aq,wM,sq 1]
theorem Xo(k:Nat)(c:bQ):(qn s k [c]).length<=(tu c).length:=by
 unfold qn;split
 ·rename_i h;have hc:c.2=true:=by rw[eD]at h;exact h.1
  unfold tu;rw[ag hc];simp[qn]
 simp[qn]
theorem O1{s:UInt8}:∀(r:List bQ) (k:Nat),(qn s k r).length<=(lh s r).length
 | [],_=>by simp[qn]
 | [c],k=>Xo k c
 | c::d::r,k=>by have h1:=Xo (s:=s) k c;have h2:=O1 (s:=s) (d::r) (k+1);have e:qn s k (c::d::r)=qn s k [c]++qn s (k+1) (d::r):=OY (a:=[c]);rw[e];simp only[lh,ak,aq]at h2 |-;omega
theorem Fk{s:UInt8}{e:ab}(o:Bool):∀(R:List (List bQ)) (k:Nat),(qn s k R.flatten).length<=(j6 s e o R).length
 | [],_=>by simp[qn]
 | [r],k=>by
  have h1:=O1 (s:=s) r k;have e1:(j6 s e o [r]).length=(lh s r).length+(if o=true then[]else e).length:=by simp[j6]
  rw[e1];simp only[pC,List.flatten_nil,aZ];omega
 | r::q::R,k=>by
  have h1:=O1 (s:=s) r k;have h2:=Fk (s:=s) (e:=e) o (q::R) (k+r.length);have e1:(j6 s e o (r::q::R)).length=(lh s r).length+(e.length+(j6 s e o (q::R)).length):=by simp[j6]
  rw[e1,pC,OY,ak];omega
theorem kA(k:Bool):cy k≠[]:=by unfold cy;split<;>simp
theorem IF{cs:List bQ}(h:cs.length<=1001):EP (nz (qn s 0 cs)):=by
 obtain⟨h1,h2⟩:=Xn (s:=s) (r:=cs) (k:=0);refine⟨λn hn=>?_,?_⟩
 ·obtain⟨m,hm,rfl⟩:=cJ.1 hn;have:=h2 m hm;omega
 unfold nz;rw[ah5];exact h1.imp λh=>by omega
structure CG(l:ab)(i:Nat)(R:List (List bQ))(o:Bool):Prop where
 lt:i<6
 eq:l=j6 (aY (i/2)) (cy (dx i)) o R
 ok:∀a∈R,a≠[]/\∀c∈a,wj (aY (i/2)) c
 su:lz (dx i) R o=true
theorem CG.ne{R:List (List bQ)}(h:CG l i R o):R≠[]:=by rintro rfl;have:=h.su;simp[lz]at this
theorem YF{R:List (List bQ)}(h:tO l=some (i,R,o)):CG l i R o:=by obtain⟨h1,h2⟩:=YG h;obtain⟨h3,h4⟩:=akJ h2;obtain⟨h5,h6⟩:=B3 h3;exact⟨h1,h5,h6,h4⟩
theorem YJ(h:gU l=some (v,r)):∃i R o,tO l=some (i,R,o)/\CG l i R o/\(ct (mm (iF R))).1=0/\v=mm (iF R)/\r=lA (gu (i/2) (dx i) o) (qn (aY (i/2)) 0 R.flatten):=by
 unfold gU at h;split at h
 ·cases h
 rename_i i R o hf;unfold tN at h;split at h
 ·rename_i hv;cases h;exact⟨i,R,o,hf,YF hf,hv,rfl,rfl⟩
 cases h
theorem akL{T:pT}(h0:T≠[])(h:∀r∈T,r≠[]):wZ (mm T)=some T:=by unfold wZ;rw[ag ⟨rfl,by show T.map wP≠[];simpa using h0⟩];show allM Pe (T.map wP)=some T;refine xj ah λi x y hx hy=>?_;rw[ib,hy]at hx;cases hx;unfold Pe;rw[ag ⟨rfl,by show y.map xu≠[];simpa using h y (jX hy)⟩];show allM cellOf (y.map xu)=some y;refine xj ah λj a b ha hb=>?_;rw[ib,hb]at ha;cases ha;rfl
theorem akI{T:pT}(h1:wZ v=some T)(h2:FQ b=some (fl,Z))(h4:(wY fl Z T).length<=1000)(h5:gU (wY fl Z T)=some (v,b)):Cl v b=some (wY fl Z T):=by unfold Cl;rw[h1];simp only;rw[h2];simp only;rw[ag ⟨h4,h5⟩]
theorem akK{R:List (List bQ)}(F:CG l i R o):wY (gu (i/2) (dx i) o) (qn (aY (i/2)) 0 R.flatten) (iF R)=l:=by have hi:=F.lt;obtain⟨_,f2,f3,f4⟩:=wW (n:=i/2) aa (dx i) o;unfold wY;rw[f2,f3,f4,agb (λr hr=>(F.ok r hr).2)];exact F.eq.symm
theorem akO(hl:l.length<=1000)(h:gU l=some (v,r)):Cl v r=some l:=by
 obtain⟨i,R,o,_,F,_,h4,h5⟩:=YJ h;have hi:=F.lt;obtain⟨q1,q2,q3⟩:=xK (s:=aY (i/2)) (kA (dx i)) o R;rw[<-F.eq]at q1 q2 q3;have hb:=akK F;obtain⟨f1,_⟩:=wW (n:=i/2) aa (dx i) o;have iA:=Fk (s:=aY (i/2)) (e:=cy (dx i)) o R 0;rw[<-F.eq]at iA;replace iA:(qn (aY (i/2)) 0 R.flatten).length<=1000:=aa;have hrd:=YI f1 iA (IF (s:=aY (i/2)) (cs:=R.flatten) aa);rw[<-h5]at hrd;have hsh:wZ v=some (iF R):=by
  rw[h4];refine akL ?_ λa ha=>?_
  ·have:=F.ne;simpa using this
  obtain⟨x,hx,rfl⟩:=cJ.1 ha;have:=(F.ok x hx).1;simpa using this
 have:=akI hsh hrd (by rw[hb];exact hl) (by rw[hb];exact h);rwa [hb]at this
theorem Iy{α:Type}{x:List α}:∀ {R:List (List α)},x∈R->x.length<=R.flatten.length
 | r::R,h=>by
  rw[pC,ak];rcases bP.1 h with rfl|h
  ·omega
  have:=Iy h;omega
theorem Ql{T:pT}(h1:T.length<=1000000)(h2:∀r∈T,r.length<=1000000/\∀x∈r,x.length<=1000000):VB 1048576 (mm T) :=
 .mk (kj 3) (kj 0) (cE _) (cE _) ah (by show(T.map wP).length<=_;simp;omega) (by intro x hx;obtain⟨r,hr,rfl⟩:=cJ.1 (show x∈T.map wP from hx);obtain⟨h3,h4⟩:=h2 r hr;exact .mk (kj 3) (kj 0) (cE _) (cE _) ah (by show(r.map xu).length<=_;simp;omega) (by intro y hy;obtain⟨c,hc,rfl⟩:=cJ.1 (show y∈r.map xu from hy);exact zL (by have:=h4 c hc;omega)))
theorem akP(hl:b.length<=1000)(h:gU b=some (v,r)):VB 1048576 v/\(ct v).1=0/\(wZ v).isSome=true/\Cl v r=some b/\r.length<=100000000/\∃ls,YH r=some ls/\ls.length<=4/\(ls=[]↔r=[]):=by
 have fM:=akO hl h;have hsh:(wZ v).isSome=true:=by
  unfold Cl at fM;cases hs:wZ v with
  | none=>rw[hs]at fM;cases fM
  | some T=>rfl
 obtain⟨i,R,o,_,F,hv,h4,h5⟩:=YJ h;have hi:=F.lt;obtain⟨q1,q2,q3⟩:=xK (s:=aY (i/2)) (kA (dx i)) o R;have iA:=Fk (s:=aY (i/2)) (e:=cy (dx i)) o R 0;rw[<-F.eq]at q1 q2 q3 iA;obtain⟨f1,_⟩:=wW (n:=i/2) aa (dx i) o;have hok:=IF (s:=aY (i/2)) (cs:=R.flatten) aa;have hz:∀n∈qn (aY (i/2)) 0 R.flatten,n<=1000:=λn hn=>by have:=hok.1 (n:Int) (cJ.2 ⟨n,hn,rfl⟩);omega
 refine⟨?_,by rw[h4];exact hv,hsh,fM,?_,?_⟩
 ·rw[h4];refine Ql (by simp;omega) λa ha=>?_;obtain⟨x,hx,rfl⟩:=cJ.1 ha;have hxl:=Iy hx;refine⟨by simp;omega,λy hy=>?_⟩;obtain⟨c,hc,rfl⟩:=cJ.1 hy;have:=q2 x hx c hc;omega
 ·rw[h5];have:=akF (fl:=gu (i/2) (dx i) o) aa (Z:=qn (aY (i/2)) 0 R.flatten) aa hz;omega
 unfold YH;rw[h5,YI f1 aa hok];refine⟨_,rfl,afO _ _,?_⟩;rw[afP f1,akG,List.length_eq_zero_iff]
theorem qJ{a:ab}(h:∀c∈a,p c=true){t:ab}(ht:∀c r,t=c::r->p c=false):(a++t).takeWhile p=a/\(a++t).dropWhile p=t:=by
 induction a with
 | nil =>
  cases t with
  | nil=>exact⟨rfl,rfl⟩
  | cons c r=>simp[ht c r rfl]
 | cons c a ih =>obtain⟨h1,h2⟩:=ih λx hx=>h x (by simp[hx]);have hc:=h c ah;simp only[bb,ah7,List.dropWhile_cons,hc,if_true];exact⟨by rw[h1],h2⟩
theorem JX{p:UInt8->Bool}:∀ {l:ab},∀c∈l.takeWhile p,p c=true
 | [],c,h=>by simp at h
 | x::l,c,h=>by
  simp only[ah7]at h;split at h
  ·rename_i hx;rcases bP.1 h with rfl|h
   ·exact hx
   exact JX c h
  simp at h
theorem S0{α β:Type}{f g:α->List β}:∀ {l:List α},(∀x∈l,f x=g x)->l.flatMap f=l.flatMap g
 | [],_=>rfl
 | x::l,h=>by rw[bD,bD,h x ah,S0 λy hy=>h y (by simp[hy])]
abbrev bB(c:UInt8):Bool:=decide (c=32)||decide (c=9)||decide (c=13)||decide (c=10)
abbrev kS(c:UInt8):Bool:=decide (c.toNat<32)||decide (126<c.toNat)
abbrev dQ(c:UInt8):Bool:=decide (48<=c.toNat)&&decide (c.toNat<=57)
abbrev lN(c:UInt8):Bool:=fU c.toNat
def iy(n:Nat):UInt8:=if n<10 then aD (48+n)else aD (87+n)
def kI(c:UInt8):Option Nat:=if 48<=c.toNat/\c.toNat<=57 then some (c.toNat-48)else if 97<=c.toNat/\c.toNat<=102 then some (c.toNat-87)else none
theorem A1(h:n<16):kI (iy n)=some n:=by have key:∀n:Fin 16,kI (iy n.val)=some n.val:=ai;exact key ⟨n,h⟩
theorem vP(h:kI c=some n):n<16/\iy n=c:=by
 unfold kI at h;split at h
 ·cases h;rename_i h1;refine⟨aa,?_⟩;unfold iy;rw[ag aa];apply bL.1;rw[kt];omega
 split at h
 ·cases h;rename_i h1;refine⟨aa,?_⟩;unfold iy;rw[ae aa];apply bL.1;rw[kt];omega
 cases h
def jZ(c:UInt8):ab:=if c=34\/c=92 then[92,c]else if kS c=true then[92,120,iy (c.toNat/16),iy (c.toNat%16)]else[c]
def eF(b:ab):ab:=b.flatMap jZ
def js(b:ab):ab:=34::(eF b++[34])
def xI:ab->Option (UInt8×ab)
 | []=>none
 | c::r=>if c=34\/c=92 then some (c,r)else if c≠120 then none else match r with
  | h::l::r'=>(match kI h,kI l with
   | some a,some b=>if kS (aD (16*a+b))=true then some (aD (16*a+b),r')else none
   | _,_=>none)
  | _=>none
theorem Ha(c:UInt8)(r:ab):xI (c::r)=if c=34\/c=92 then some (c,r)else if c≠120 then none else match r with
  | h::l::r'=>(match kI h,kI l with
   | some a,some b=>if kS (aD (16*a+b))=true then some (aD (16*a+b),r')else none
   | _,_=>none)
  | _=>none:=rfl
def kB:Nat->ab->Option (ab×ab)
 | 0,_=>none
 | _+1,[]=>none
 | n+1,c::r=>if c=34 then some ([],r)else if kS c=true then none else if c=92 then(match xI r with
   | none=>none
   | some (d,r')=>(kB n r').map λx=>(d::x.1,x.2))else(kB n r).map λx=>(c::x.1,x.2)
theorem zj(h:d=34\/d=92):jZ d=[92,d]:=by unfold jZ;rw[ag h]
theorem B0(h:kS d=true):jZ d=[92,120,iy (d.toNat/16),iy (d.toNat%16)]:=by
 have:¬(d=34\/d=92):=by rintro(rfl|rfl)<;>exact absurd h ai
 unfold jZ;rw[ae this,ag h]
theorem BZ(h1:¬(d=34\/d=92))(h2:kS d=false):jZ d=[d]:=by unfold jZ;rw[ae h1,ae (by simp[h2])]
theorem SM(h:xI r=some (d,t)):92::r=jZ d++t/\t.length<r.length:=by
 cases r with
 | nil=>simp[xI]at h
 | cons c r =>
  rw[Ha]at h;split at h
  ·rename_i hc;cases h;rw[zj hc];exact⟨rfl,ah⟩
  split at h
  ·cases h
  rename_i h1 h2;have hc:c=120:=Decidable.not_not.1 h2;split at h
  ·rename_i x y r';split at h
   ·rename_i a b ha hb;split at h
    ·rename_i hs;cases h;obtain⟨a1,a2⟩:=vP ha;obtain⟨b1,b2⟩:=vP hb;have hn:(aD (16*a+b)).toNat=16*a+b:=by rw[kt];omega
     rw[B0 hs,hn,show(16*a+b)/16=a by omega,show(16*a+b)%16=b by omega,a2,b2,hc];exact⟨rfl,by simp;omega⟩
    cases h
   cases h
  cases h
theorem acR(h:d=34\/d=92\/kS d=true)(t:ab):∃r,jZ d++t=92::r/\xI r=some (d,t):=by
 by_cases h1:d=34\/d=92
 ·rw[zj h1];exact⟨d::t,rfl,by rw[Ha,ag h1]⟩
 have h2:kS d=true:=by
  rcases h with h|h|h
  ·exact absurd (.inl h) h1
  ·exact absurd (.inr h) h1
  exact h
 rw[B0 h2];have hlt:=d.toNat_lt;refine⟨120::iy (d.toNat/16)::iy (d.toNat%16)::t,rfl,?_⟩;rw[Ha,ae ai,ae ai];simp only[A1 (show d.toNat/16<16 by omega),A1 (show d.toNat%16<16 by omega)];have e:aD (16*(d.toNat/16)+d.toNat%16)=d:=by apply bL.1;rw[kt];omega
 rw[e,ag h2]
theorem PY:∀ {n:Nat} {l b t:ab},kB n l=some (b,t)->l=eF b++34::t
 | 0,l,b,t,h=>by simp[kB]at h
 | n+1,[],b,t,h=>by simp[kB]at h
 | n+1,c::r,b,t,h=>by
  rw[kB]at h;split at h
  ·rename_i hc;cases h;rw[hc];rfl
  rename_i hc;split at h
  ·cases h
  rename_i hs;split at h
  ·rename_i jB;split at h
   ·cases h
   rename_i d r' he;obtain⟨x,hx,h⟩:=iB.1 h;obtain⟨b',t'⟩:=x;cases h;have ih:=PY hx;rw[jB,(SM he).1,ih];simp[eF]
  rename_i jB;obtain⟨x,hx,h⟩:=iB.1 h;obtain⟨b',t'⟩:=x;cases h;have ih:=PY hx;rw[ih];simp[eF,BZ (d:=c) (by rintro(h|h);exact hc h;exact jB h) (by simpa using hs)]
theorem Xp(c:UInt8):∃x r,jZ c=x::r/\x≠34:=by
 by_cases h1:c=34\/c=92
 ·exact⟨92,[c],zj h1,ai⟩
 by_cases h2:kS c=true
 ·exact⟨92,_,B0 h2,ai⟩
 exact⟨c,[],BZ h1 (by simpa using h2),λe=>h1 (.inl e)⟩
theorem YR:∀ {b:ab} {n:Nat} {t:ab},(eF b).length<n->kB n (eF b++34::t)=some (b,t)
 | [],0,t,h=>by omega
 | [],n+1,t,h=>by simp[eF,kB]
 | c::b,0,t,h=>by omega
 | c::b,n+1,t,h=>by
  have e:eF (c::b)=jZ c++eF b:=by simp[eF]
  have hl:(jZ c).length>=1:=by obtain⟨x,r,hx,_⟩:=Xp c;rw[hx];simp
  rw[e,ak]at h;have ih:=YR (b:=b) (n:=n) (t:=t) aa;rw[e,bj];by_cases h1:c=34\/c=92\/kS c=true
  ·obtain⟨r,h2,h3⟩:=acR h1 (eF b++34::t);rw[h2,kB,ae ai,ae ai,ag rfl,h3];simp only[ih,gQ]
  have h2:¬(c=34\/c=92):=λh=>h1 (h.imp_right .inl);have h3:kS c=false:=by simpa using λh=>h1 (.inr (.inr h))
  rw[BZ h2 h3];simp only[bb,aL];rw[kB,ae (λh=>h2 (.inl h)),ae (by simp[h3]),ae (λh=>h2 (.inr h)),ih];rfl
def jN(s:ab):Option Int:=match Lib.atoiAll s with
 | .ok v=>if Lib.itoa v=s then some v else none
 | _=>none
theorem PX{s:ab}{v:Int}(h:jN s=some v):s=Lib.itoa v/\cY v:=by
 unfold jN at h;split at h
 ·rename_i u hu;split at h
  ·rename_i he;cases h;exact⟨he.symm,Lib.atoiAll_bounds hu⟩
  cases h
 cases h
theorem Wm:∀(a b:ab) (acc:Nat),Lib.parseUint10 acc (a++b)=match Lib.parseUint10 acc a with
  | .ok u=>Lib.parseUint10 u b
  | e=>e
 | [],b,acc=>rfl
 | c::a,b,acc=>by
  simp only[bb,Lib.parseUint10];split
  ·split
   ·rfl
   split
   ·rfl
   exact Wm a b _
  rfl
theorem vB(h:n<10):(aD (48+n)).toNat=48+n:=by rw[kt];omega
theorem ahr:∀(u:Nat),u<18446744073709551616->Lib.parseUint10 0 (Lib.decDigits u)=.ok u:=by
 intro u;induction u using Nat.strongRecOn with
 | _ u ih =>
  intro hu;by_cases h:u<10
  ·rw[Go.Lib.decDigits_one h];simp only[Lib.parseUint10,vB h];rw[ag aa,ae aa,ae aa];congr 1;omega
  rw[Lib.decDigits,dif_neg h,Wm,ih (u/10) aa aa];simp only[Lib.parseUint10,vB (show u%10<10 by omega)];rw[ag aa,ae aa,ae aa];congr 1;omega
theorem Db:∀(u:Nat),∀c∈Lib.decDigits u,dQ c=true:=by
 intro u;induction u using Nat.strongRecOn with
 | _ u ih =>
  intro c hc;by_cases h:u<10
  ·rw[Go.Lib.decDigits_one h]at hc;simp only[cz]at hc;subst hc;simp only[dQ,vB h];simp;omega
  rw[Lib.decDigits,dif_neg h]at hc;rcases cc.1 hc with hc|hc
  ·exact ih (u/10) aa c hc
  simp only[cz]at hc;subst hc;simp only[dQ,vB (show u%10<10 by omega)];simp;omega
theorem G2(u:Nat):∃c r,Lib.decDigits u=c::r:=by
 cases h:Lib.decDigits u with
 | nil =>have:=Lib.decDigits_length u;rw[h]at this;have:=Lib.nDigits_pos u;simp at *;omega
 | cons c r=>exact⟨c,r,rfl⟩
theorem Wl{u:Nat}(h:u<18446744073709551616):Lib.parseMag (Lib.decDigits u)=.ok u:=by obtain⟨c,r,hc⟩:=G2 u;unfold Lib.parseMag;rw[ae (by rw[hc];simp),ahr u h]
theorem PW{v:Int}(h:cY v):jN (Lib.itoa v)=some v:=by
 have key:Lib.atoiAll (Lib.itoa v)=.ok v:=by
  unfold Lib.itoa;split
  ·rename_i hn;rw[Lib.atoiAll_minus,Wl aa];simp only[Lib.signed];rw[ae aa];congr 1;omega
  rename_i hn;obtain⟨c,r,hc⟩:=G2 v.toNat;have hd:=Db v.toNat c (by rw[hc];simp);simp only[dQ,eD,eQ]at hd;rw[hc,Lib.atoiAll_plain c r aa aa,<-hc,Wl aa];simp only[Lib.signless];rw[ae aa];congr 1;omega
 unfold jN;rw[key];simp
def uS(l:ab):ab:=match l with
 | []=>[]
 | c::r=>if c=45 then 45::r.takeWhile dQ else(c::r).takeWhile dQ
theorem N9(c:UInt8)(r:ab):uS (c::r)=if c=45 then 45::r.takeWhile dQ else(c::r).takeWhile dQ:=rfl
theorem agN(l:ab):∃t,l=uS l++t:=by
 cases l with
 | nil=>exact⟨[],rfl⟩
 | cons c r =>
  rw[N9];split
  ·rename_i h;exact⟨r.dropWhile dQ,by rw[h,bb,pE]⟩
  exact⟨(c::r).dropWhile dQ,by rw[pE]⟩
theorem wc(v:Int):∃c r,Lib.itoa v=c::r/\(c=45\/dQ c=true)/\∀x∈r,dQ x=true:=by
 unfold Lib.itoa;split
 ·exact⟨45,_,rfl,.inl rfl,Db _⟩
 obtain⟨c,r,hc⟩:=G2 v.toNat;rw[hc];exact⟨c,r,rfl,.inr (Db v.toNat c (by rw[hc];simp)),λx hx=>Db v.toNat x (by rw[hc];simp[hx])⟩
theorem agM{v:Int}(ht:∀c r,t=c::r->dQ c=false):uS (Lib.itoa v++t)=Lib.itoa v:=by
 obtain⟨c,r,hc,h1,h2⟩:=wc v;rw[hc,bb,N9];split
 ·rename_i h;rw[(qJ h2 ht).1,h]
 rename_i h;have h1:=h1.resolve_left h;rw[<-bb,(qJ (λx hx=>by rcases bP.1 hx with rfl|hx;exact h1;exact h2 x hx) ht).1]
abbrev Tok:=ab
abbrev af(s:Tok):Bool:=decide (s=[44])||decide (s=[58])
abbrev ju(sp:Bool):ab:=if sp=true then[32]else[]
def dp:ao->List Tok
 | .mk k n b s ps=>if k=1 then[Lib.itoa n]else if k=2 then[js b]else
  [if k=4 then 123 else 91]::((ps.attach.zipIdx.flatMap λp=>(if p.2=0 then[]else[[44]])++((if k=4 then[s.getD p.2 [],[58]]else[])++dp p.1.1))++[[if k=4 then 125 else 93]])
decreasing_by
 have:=List.sizeOf_lt_of_mem p.1.2
 simp only[ao.mk.sizeOf_spec]
 omega
def fW(k:Int)(s:bf)(i:Nat)(p:ao):List Tok:=(if i=0 then[]else[[44]])++((if k=4 then[s.getD i [],[58]]else[])++dp p)
def eG(k:Int)(s:bf)(ps:List ao):List Tok:=ps.zipIdx.flatMap λp=>fW k s p.2 p.1
abbrev ko(k:Int):Tok:=[if k=4 then 123 else 91]
abbrev gG(k:Int):Tok:=[if k=4 then 125 else 93]
theorem vd(v:ao):dp v=if v.kind=1 then[Lib.itoa v.num]else if v.kind=2 then[js v.bytes]else ko v.kind::(eG v.kind v.names v.parts++[gG v.kind]):=by
 cases v with
 | mk k n b s ps =>
  rw[dp];simp only[ao.parts];split
  ·rfl
  split
  ·rfl
  congr 2;unfold eG fW;conv=>rhs;rw[<-List.attach_map_subtype_val ps,List.zipIdx_map,se]
  rfl
theorem Co(n:Int):dp (.mk 1 n [] [] [])=[Lib.itoa n]:=by rw[vd,ag rfl]
theorem zD(b:ab):dp (.mk 2 0 b [] [])=[js b]:=(vd _).trans rfl
theorem zE(ps:List ao):dp (.mk 3 0 [] [] ps)=ko 3::(eG 3 [] ps++[gG 3]):=(vd _).trans rfl
theorem zF(s:bf)(ps:List ao):dp (.mk 4 0 [] s ps)=ko 4::(eG 4 s ps++[gG 4]):=(vd _).trans rfl
theorem FT(k:Int)(s:bf):eG k s []=[]:=rfl
theorem Cn(k:Int)(s:bf)(ps:List ao)(p:ao):eG k s (ps++[p])=eG k s ps++fW k s ps.length p:=by unfold eG;rw[List.zipIdx_append,List.flatMap_append];simp
theorem ak4(k:Int)(s t:bf)(ps:List ao)(h:k=4->ps.length<=s.length):eG k (s++t) ps=eG k s ps:=by
 unfold eG;refine S0 λp hp=>?_;unfold fW;by_cases hk:k=4
 ·rw[ag hk,ag hk];have h1:=h hk;have h2:p.2<ps.length:=by obtain⟨i,hi⟩:=BP.1 hp;rw[OE]at hi;obtain⟨x,hx,rfl⟩:=iB.1 hi;simpa using(dH.1 hx).1
  have e:(s++t).getD p.2 []=s.getD p.2 []:=by simp[List.getD,qx (show p.2<s.length by omega)]
  rw[e]
 rw[ae hk,ae hk]
inductive gY:ao->Prop where
 | num {n:Int} (h:cY n):gY (.mk 1 n [] [] [])
 | j4 (b:ab):gY (.mk 2 0 b [] [])
 | uO {ps:List ao} (h:∀p∈ps,gY p):gY (.mk 3 0 [] [] ps)
 | u5 {s:bf} {ps:List ao} (hs:∀x∈s,cX x=true) (hl:s.length=ps.length) (h:∀p∈ps,gY p):gY (.mk 4 0 [] s ps)
structure RS where
 rest:ab
 cnt:Nat
 last:Tok
 ia:List (Nat×ab)
def sK(want:ab)(s:RS):RS:=⟨s.rest.dropWhile bB,s.cnt+1,[],if s.rest.takeWhile bB=want then s.ia else s.ia++[(s.cnt,s.rest.takeWhile bB)]⟩
def pk(s:RS):Option UInt8:=(s.rest.dropWhile bB).head?
abbrev ik(s:RS):RS:=sK (ju (af s.last)) s
def kP(c:UInt8)(s:RS):Option RS:=if pk s=some c then some { ik s with last:=[c],rest:=(s.rest.dropWhile bB).tail }else none
def pz(s:RS):Option (ab×RS):=if pk s=none then none else
 if cX ((s.rest.dropWhile bB).takeWhile lN)=true then some ((s.rest.dropWhile bB).takeWhile lN,{ ik s with rest:=(s.rest.dropWhile bB).dropWhile lN })else none
def rQ(s:RS):Option (Int×RS):=match jN (uS (s.rest.dropWhile bB))with
 | none=>none
 | some v=>some (v,{ ik s with rest:=(s.rest.dropWhile bB).drop (uS (s.rest.dropWhile bB)).length })
def qM(s:RS):Option (ab×RS):=match kB ((s.rest.dropWhile bB).length+1) (s.rest.dropWhile bB).tail with
 | none=>none
 | some (b,t)=>some (b,{ ik s with rest:=t })
abbrev EL:=bf×List ao×RS
abbrev lG:=RS->Option (ao×RS)
def nj(f:lG)(ns:bf)(ps:List ao)(s:RS):Option EL:=match f s with
 | none=>none
 | some (v,s)=>some (ns,ps++[v],s)
def jk(f:lG)(k:Int)(x:EL):Option EL :=
 if k=4 then match pz x.2.2 with
  | none=>none
  | some (nm,s)=>match kP 58 s with
   | none=>none
   | some s=>nj f (x.1++[nm]) x.2.1 s
 else nj f x.1 x.2.1 x.2.2
def py(f:lG)(k:Int):Nat->EL->Option EL
 | 0,_=>none
 | n+1,x=>match pk x.2.2 with
  | none=>none
  | some c=>if c=44 then(match kP 44 x.2.2 with
    | none=>none
    | some s=>match jk f k (x.1,x.2.1,s)with
     | none=>none
     | some y=>py f k n y)else some x
def mC(e:UInt8)(x:EL):Option EL:=match kP e x.2.2 with
 | none=>none
 | some s=>some (x.1,x.2.1,s)
def ql(f:lG)(k:Int)(s:RS):Option EL:=match kP (if k=4 then 123 else 91) s with
 | none=>none
 | some s=>match pk s with
  | none=>none
  | some c=>if c=(if k=4 then 125 else 93)then mC (if k=4 then 125 else 93) ([],[],s)else match jk f k ([],[],s)with
   | none=>none
   | some y=>match py f k (y.2.2.rest.length+1) y with
    | none=>none
    | some z=>mC (if k=4 then 125 else 93) z
def gr:Nat->lG
 | 0,_=>none
 | n+1,s=>match pk s with
  | none=>none
  | some c=>if c=34 then(qM s).map λx=>(.mk 2 0 x.1 [] [],x.2)
   else if c=91 then(ql (gr n) 3 s).map λx=>(.mk 3 0 [] x.1 x.2.1,x.2.2)
   else if c=123 then(ql (gr n) 4 s).map λx=>(.mk 4 0 [] x.1 x.2.1,x.2.2)
   else(rQ s).map λx=>(.mk 1 x.1 [] [] [],x.2)
def sL(l:ab):Option (ao×List (Nat×ab)):=match gr (l.length+1) ⟨l,0,[],[]⟩with
 | none=>none
 | some (v,s)=>if(sK [10] s).rest=[]then some (v,(sK [10] s).ia)else none
abbrev BL:=List (ab×Tok)
def cC(L:BL):ab:=L.flatMap λp=>p.1++p.2
def iw:Nat->Bool->BL->List (Nat×ab)
 | _,_,[]=>[]
 | i,sp,p::L=>(if p.1=ju sp then[]else[(i,p.1)])++iw (i+1) (af p.2) L
def Ah(sp:Bool):BL->Bool
 | []=>sp
 | p::L=>Ah (af p.2) L
theorem LG(a b:BL):cC (a++b)=cC a++cC b:=by simp[cC]
theorem qa(p:ab×Tok)(b:BL):cC (p::b)=p.1++(p.2++cC b):=by simp[cC]
theorem QH:∀(sp:Bool) (a b:BL),Ah sp (a++b)=Ah (Ah sp a) b
 | _,[],_=>rfl
 | _,_::a,b=>QH _ a b
theorem Sk:∀(i:Nat) (sp:Bool) (a b:BL),iw i sp (a++b)=iw i sp a++iw (i+a.length) (Ah sp a) b
 | _,_,[],_=>rfl
 | i,sp,p::a,b=>by rw[bb,iw,iw,Sk (i+1) (af p.2) a b,bj,aq,show i+1+a.length=i+(a.length+1)by omega];rfl
structure fq(s:RS)(L:BL)(s':RS):Prop where
 rest:s.rest=cC L++s'.rest
 bk:∀p∈L,∀c∈p.1,bB c=true
 cnt:s'.cnt=s.cnt+L.length
 sp:af s'.last=Ah (af s.last) L
 ia:s'.ia=s.ia++iw s.cnt (af s.last) L
theorem fq.refl(s:RS):fq s [] s:=⟨rfl,ah,rfl,rfl,by simp[iw]⟩
theorem fq.trans{a b c:RS}{L M:BL}(h:fq a L b)(k:fq b M c):fq a (L++M) c:=by
 refine⟨by rw[h.rest,k.rest,LG,bj],λp hp=>?_,by rw[k.cnt,h.cnt,ak,wM],by rw[k.sp,h.sp,QH],by rw[k.ia,h.ia,Sk,bj,h.cnt,h.sp]⟩;rcases cc.1 hp with hp|hp
 ·exact h.bk p hp
 exact k.bk p hp
theorem fq.one{s:RS}{t:Tok}{ls:Tok}(h:s.rest.dropWhile bB=t++r)(hl:af ls=af t):fq s [(s.rest.takeWhile bB,t)] { ik s with last:=ls,rest:=r }:=by
 refine⟨?_,?_,rfl,hl,?_⟩
 ·conv=>lhs;rw[<-pE (p:=bB) (l:=s.rest),h]
  simp[cC]
 ·intro p hp;simp only[cz]at hp;subst hp;exact JX
 simp only[sK,iw,aZ];split<;>simp
theorem Cf{s s':RS}(h:kP c s=some s'):fq s [(s.rest.takeWhile bB,[c])] s':=by
 unfold kP at h;split at h
 ·rename_i hp;cases h;refine fq.one ?_ rfl;unfold pk at hp;cases hd:s.rest.dropWhile bB with
  | nil=>rw[hd]at hp;cases hp
  | cons x r=>rw[hd]at hp;cases hp;rfl
 cases h
theorem agt(h:cX x=true):af x=false:=by
 cases e:af x with
 | false=>rfl
 | true =>simp only[af,rY,eQ]at e;rcases e with rfl|rfl<;>exact absurd h ai
theorem Xq(b:ab):af (js b)=false:=by simp[af,js]
theorem U7(v:Int):af (Lib.itoa v)=false:=by
 obtain⟨c,r,hc,h1,_⟩:=wc v;rw[hc];cases e:af (c::r)with
 | false=>rfl
 | true =>simp only[af,rY,eQ,List.cons.injEq]at e;rcases e with⟨rfl,_⟩|⟨rfl,_⟩<;>rcases h1 with h1|h1<;>exact absurd h1 ai
theorem NZ{s s':RS}(h:pz s=some (x,s')):fq s [(s.rest.takeWhile bB,x)] s'/\cX x=true:=by
 unfold pz at h;split at h
 ·cases h
 split at h
 ·rename_i hn;cases h;exact⟨fq.one (by rw[pE]) (by rw[agt hn];rfl),hn⟩
 cases h
theorem VT{s s':RS}{v:Int}(h:rQ s=some (v,s')):fq s [(s.rest.takeWhile bB,Lib.itoa v)] s'/\cY v:=by
 unfold rQ at h;split at h
 ·cases h
 rename_i u hu;cases h;obtain⟨h1,h2⟩:=PX hu;refine⟨fq.one ?_ (by rw[U7];rfl),h2⟩;obtain⟨t,ht⟩:=agN (s.rest.dropWhile bB);rw[h1]at ht;rw[h1];conv=>lhs;rw[ht]
 congr 1;conv=>rhs;rw[ht]
 rw[kN]
theorem Y0{s s':RS}(hp:pk s=some 34)(h:qM s=some (b,s')):fq s [(s.rest.takeWhile bB,js b)] s':=by
 unfold qM at h;split at h
 ·cases h
 rename_i b' t hs;cases h;refine fq.one ?_ (by rw[Xq];rfl);have h1:=PY hs;unfold pk at hp;cases hd:s.rest.dropWhile bB with
 | nil=>rw[hd]at hp;cases hp
 | cons x r =>rw[hd]at hp h1;cases hp;simp only[mf]at h1;rw[h1];simp[js]
def xh(f:lG):Prop:=∀s v s',f s=some (v,s')->∃L,fq s L s'/\L.map Prod.snd=dp v/\gY v
structure zY(k:Int)(s0:RS)(x:EL):Prop where
 ex:∃L,fq s0 L x.2.2/\L.map Prod.snd=eG k x.1 x.2.1
 wf:∀p∈x.2.1,gY p
 nm:∀n∈x.1,cX n=true
 len:k=4->x.1.length=x.2.1.length
 nil:k≠4->x.1=[]
theorem SA{f:lG}(hf:xh f){ns:bf}{ps:List ao}{s:RS}{y:EL}(h:nj f ns ps s=some y):∃v L,y.1=ns/\y.2.1=ps++[v]/\fq s L y.2.2/\L.map Prod.snd=dp v/\gY v:=by
 unfold nj at h;split at h
 ·cases h
 rename_i v s' hv;cases h;obtain⟨L,h1,h2,h3⟩:=hf _ _ _ hv;exact⟨v,L,rfl,rfl,h1,h2,h3⟩
theorem Sz{f:lG}(hf:xh f){k:Int}{s0 s1:RS}{ns:bf}{ps:List ao}{s:RS}{y:EL}(hx:zY k s0 (ns,ps,s1)){L0:BL}(h0:fq s1 L0 s)(hL0:L0.map Prod.snd=(if ps.length=0 then[]else[[44]]))(h:jk f k (ns,ps,s)=some y):zY k s0 y:=by
 obtain⟨⟨L,hL,ht⟩,hw,hn,hl,hz⟩:=hx;dsimp only at hL ht hw hn hl hz;unfold jk at h;split at h
 ·rename_i hk;split at h
  ·cases h
  rename_i nm s2 h2;split at h
  ·cases h
  rename_i s3 h3;obtain⟨v,M,e1,e2,h4,h5,h6⟩:=SA hf h;obtain⟨y1,y2,y3⟩:=y;dsimp only at e1 e2 h4;subst e1 e2;obtain⟨h7,h8⟩:=NZ h2;have h9:=Cf h3;refine⟨⟨_,((hL.trans h0).trans ((h7.trans h9).trans h4)),?_⟩,?_,?_,λ_=>by have:=hl hk;simp;omega,λhk'=>absurd hk hk'⟩
  ·rw[Cn,ak4 k ns [nm] ps (λ_=>by have:=hl hk;omega)];unfold fW;rw[ag hk];have e:(ns++[nm]).getD ps.length []=nm:=by have:=hl hk;simp[List.getD,<-this]
   rw[e];simp only[dU,fO,List.map_nil,ht,hL0,h5];simp
  ·intro p hp;rcases cc.1 hp with hp|hp
   ·exact hw p hp
   simp only[cz]at hp;subst hp;exact h6
  intro n hn';rcases cc.1 hn' with hn'|hn'
  ·exact hn n hn'
  simp only[cz]at hn';subst hn';exact h8
 rename_i hk;obtain⟨v,M,e1,e2,h4,h5,h6⟩:=SA hf h;obtain⟨y1,y2,y3⟩:=y;dsimp only at e1 e2 h4;subst e1 e2;refine⟨⟨_,(hL.trans h0).trans h4,?_⟩,?_,hn,λhk'=>absurd hk' hk,hz⟩
 ·rw[Cn];unfold fW;rw[ae hk];simp only[dU,ht,hL0,h5];simp
 intro p hp;rcases cc.1 hp with hp|hp
 ·exact hw p hp
 simp only[cz]at hp;subst hp;exact h6
theorem Sx{f:lG}{k:Int}{x y:EL}(h:jk f k x=some y):y.2.1.length=x.2.1.length+1:=by
 have key:∀ns ps s,nj f ns ps s=some y->y.2.1.length=ps.length+1:=by
  intro ns ps s h;unfold nj at h;split at h
  ·cases h
  cases h;simp
 unfold jk at h;split at h
 ·split at h
  ·cases h
  split at h
  ·cases h
  exact key _ _ _ h
 exact key _ _ _ h
theorem Vr{f:lG}(hf:xh f){k:Int}{s0:RS}:∀ {n:Nat} {x y:EL},zY k s0 x->x.2.1.length≠0->py f k n x=some y->zY k s0 y
 | 0,x,y,_,_,h=>by simp[py]at h
 | n+1,x,y,hx,hne,h=>by
  rw[py]at h;split at h
  ·cases h
  split at h
  ·split at h
   ·cases h
   rename_i s hs;split at h
   ·cases h
   rename_i z hz;refine Vr hf ?_ (by rw[Sx hz];omega) h;obtain⟨ns,ps,s1⟩:=x;exact Sz hf hx (Cf hs) (by rw[ae hne];rfl) hz
  cases h;exact hx
theorem acq{e:UInt8}{x y:EL}(h:mC e x=some y):y.1=x.1/\y.2.1=x.2.1/\fq x.2.2 [(x.2.2.rest.takeWhile bB,[e])] y.2.2:=by
 unfold mC at h;split at h
 ·cases h
 rename_i s hs;cases h;exact⟨rfl,rfl,Cf hs⟩
theorem Vw{f:lG}(hf:xh f){k:Int}{s:RS}{y:EL}(h:ql f k s=some y) :
  (∃L,fq s L y.2.2/\L.map Prod.snd=ko k::(eG k y.1 y.2.1++[gG k]))/\(∀p∈y.2.1,gY p)/\(∀n∈y.1,cX n=true)/\(k=4->y.1.length=y.2.1.length)/\(k≠4->y.1=[]):=by
 obtain⟨e,he⟩:∃e,e=(if k=4 then(125:UInt8)else 93):=⟨_,rfl⟩
 have fin:∀s1 x,fq s [(s.rest.takeWhile bB,ko k)] s1->zY k s1 x->mC e x=some y ->
   (∃L,fq s L y.2.2/\L.map Prod.snd=ko k::(eG k y.1 y.2.1++[gG k]))/\(∀p∈y.2.1,gY p)/\(∀n∈y.1,cX n=true)/\(k=4->y.1.length=y.2.1.length)/\(k≠4->y.1=[]):=by
  intro s1 x h1 hx hen;obtain⟨e1,e2,h2⟩:=acq hen;obtain⟨⟨L,hL,ht⟩,hw,hn,hl,hz⟩:=hx;rw[e1,e2];refine⟨⟨_,h1.trans (hL.trans h2),?_⟩,hw,hn,hl,hz⟩;subst he;simp[ht]
 unfold ql at h;rw[<-he]at h;split at h
 ·cases h
 rename_i s1 h1;have h1:=Cf h1;have hz:zY k s1 ([],[],s1):=⟨⟨[],fq.refl _,rfl⟩,ah,ah,λ_=>rfl,λ_=>rfl⟩
 split at h
 ·cases h
 split at h
 ·exact fin s1 _ h1 hz h
 split at h
 ·cases h
 rename_i z v7;split at h
 ·cases h
 rename_i u hu;refine fin s1 u h1 (Vr hf ?_ (by rw[Sx v7];simp) hu) h;exact Sz hf hz (fq.refl _) ah v7
theorem Jw:∀(n:Nat),xh (gr n)
 | 0=>λs v s' h=>by simp[gr]at h
 | n+1=>λs v s' h=>by
  have ih:=Jw n;rw[gr]at h;split at h
  ·cases h
  rename_i c hc;split at h
  ·rename_i dy;obtain⟨x,hx,h⟩:=iB.1 h;obtain⟨b,s2⟩:=x;cases h;exact⟨_,Y0 (by rw[hc,dy]) hx,by rw[zD];rfl,.j4 b⟩
  split at h
  ·obtain⟨x,hx,h⟩:=iB.1 h;obtain⟨ns,ps,s2⟩:=x;cases h;obtain⟨⟨L,h1,h2⟩,h3,h4,h5,h6⟩:=Vw ih hx;obtain rfl:ns=[]:=h6 ai;exact⟨L,h1,by rw[zE,h2],.uO h3⟩
  split at h
  ·obtain⟨x,hx,h⟩:=iB.1 h;obtain⟨ns,ps,s2⟩:=x;cases h;obtain⟨⟨L,h1,h2⟩,h3,h4,h5,h6⟩:=Vw ih hx;exact⟨L,h1,by rw[zF,h2],.u5 h4 (h5 rfl) h3⟩
  obtain⟨x,hx,h⟩:=iB.1 h;obtain⟨u,s2⟩:=x;cases h;obtain⟨h1,h2⟩:=VT hx;exact⟨_,h1,by rw[Co];rfl,.num h2⟩
abbrev mr(b:ab):Prop:=∀c∈b,bB c=true
def tr(q:UInt8->Bool)(t:ab):Prop:=∀c r,t=c::r->q c=false
theorem GD(h:bB c=true):c=32\/c=9\/c=13\/c=10:=by simpa [bB,or_assoc]using h
theorem CP(h:bB c=true):dQ c=false:=by rcases GD h with rfl|rfl|rfl|rfl<;>decide
theorem aa3(h:bB c=true):lN c=false:=by rcases GD h with rfl|rfl|rfl|rfl<;>decide
theorem Bs{q:UInt8->Bool}(hq:∀c,bB c=true->q c=false){b:ab}(hb:mr b){c:UInt8}(hc:q c=false)(r:ab):tr q (b++c::r):=by
 intro x y h;cases b with
 | nil=>cases h;exact hc
 | cons z b=>cases h;exact hq _ (hb _ ah)
theorem Am(hb:mr b){c:UInt8}(hc:bB c=false)(r:ab):(b++c::r).takeWhile bB=b/\(b++c::r).dropWhile bB=c::r :=
 qJ hb λx y h=>by cases h;exact hc
theorem qp{s:RS}(hs:s.rest=b++c::r)(hb:mr b)(hc:bB c=false):pk s=some c:=by unfold pk;rw[hs,(Am hb hc r).2];rfl
theorem FD{s:RS}(hs:s.rest=b++c::r)(hb:mr b)(hc:bB c=false):∃s',kP c s=some s'/\fq s [(b,[c])] s'/\s'.rest=r:=by
 obtain⟨h1,h2⟩:=Am hb hc r;have e:kP c s=some { ik s with last:=[c],rest:=(s.rest.dropWhile bB).tail }:=by unfold kP;rw[ag (qp hs hb hc)]
 refine⟨_,e,?_,by rw[hs,h2];rfl⟩;have:=Cf e;rwa [hs,h1,<-hs]at this
theorem yS(h:cX x=true):∃c r,x=c::r/\(97<=c.toNat/\c.toNat<=122)/\∀y∈x,lN y=true:=by
 unfold cX at h;simp only[eD,eQ,bc]at h;obtain⟨h1,h2,h3⟩:=h;cases x with
 | nil=>simp at h1
 | cons c r=>exact⟨c,r,rfl,by simpa using h2,h3⟩
theorem Ey(h:33<=c.toNat):bB c=false:=by
 cases e:bB c with
 | false=>rfl
 | true=>rcases GD e with rfl|rfl|rfl|rfl<;>exact absurd h ai
theorem agA{s:RS}(hs:s.rest=b++(x++r))(hb:mr b)(hx:cX x=true)(hr:tr lN r):∃s',pz s=some (x,s')/\fq s [(b,x)] s'/\s'.rest=r:=by
 obtain⟨c,x',hc,h1,h2⟩:=yS hx;have xX:bB c=false:=Ey aa;have hs':s.rest=b++c::(x'++r):=by rw[hs,hc];rfl
 obtain⟨h3,h4⟩:=Am hb xX (x'++r);have h5:s.rest.dropWhile bB=x++r:=by rw[hs',h4,hc];rfl
 obtain⟨h6,h7⟩:=qJ h2 hr;have e:pz s=some (x,{ ik s with rest:=r }):=by unfold pz;rw[ae (by rw[qp hs' hb xX];simp),h5,h6,h7,ag hx]
 refine⟨_,e,?_,rfl⟩;have:=(NZ e).1;rwa [hs',h3]at this
theorem Im(v:Int):∃c r,Lib.itoa v=c::r/\bB c=false/\c≠34/\c≠91/\c≠123:=by
 obtain⟨c,r,hc,h1,_⟩:=wc v;refine⟨c,r,hc,?_⟩;rcases h1 with rfl|h1
 ·decide
 simp only[dQ,eD,eQ]at h1;refine⟨Ey aa,?_,?_,?_⟩<;>(rintro rfl;exact absurd h1 ai)
theorem agK{s:RS}{v:Int}(hs:s.rest=b++(Lib.itoa v++r))(hb:mr b)(hv:cY v)(hr:tr dQ r):∃s',rQ s=some (v,s')/\fq s [(b,Lib.itoa v)] s'/\s'.rest=r:=by
 obtain⟨c,x',hc,xX,_⟩:=Im v;have hs':s.rest=b++c::(x'++r):=by rw[hs,hc];rfl
 obtain⟨h3,h4⟩:=Am hb xX (x'++r);have h5:s.rest.dropWhile bB=Lib.itoa v++r:=by rw[hs',h4,hc];rfl
 have e:rQ s=some (v,{ ik s with rest:=r }):=by unfold rQ;rw[h5,agM hr,PW hv];simp only[kN]
 refine⟨_,e,?_,rfl⟩;have:=(VT e).1;rwa [hs',h3]at this
theorem alo{s:RS}(hs:s.rest=b++(js x++r))(hb:mr b):∃s',qM s=some (x,s')/\fq s [(b,js x)] s'/\s'.rest=r:=by
 have hs':s.rest=b++34::(eF x++34::r):=by rw[hs];simp[js]
 have xX:bB 34=false:=ai;obtain⟨h3,h4⟩:=Am hb xX (eF x++34::r);have h5:s.rest.dropWhile bB=34::(eF x++34::r):=by rw[hs',h4]
 have e:qM s=some (x,{ ik s with rest:=r }):=by unfold qM;rw[h5,mf,YR (by simp;omega)]
 refine⟨_,e,?_,rfl⟩;have:=Y0 (qp hs' hb xX) e;rwa [hs',h3]at this
theorem ow{L:BL}{a:Tok}{A:List Tok}(h:L.map Prod.snd=a::A):∃b M,L=(b,a)::M/\M.map Prod.snd=A:=by
 cases L with
 | nil=>cases h
 | cons p M =>obtain⟨b,x⟩:=p;simp only[fO,List.cons.injEq]at h;exact⟨b,M,by rw[h.1],h.2⟩
theorem NU{L:BL}{A B:List Tok}(h:L.map Prod.snd=A++B):∃M N,L=M++N/\M.map Prod.snd=A/\N.map Prod.snd=B:=by obtain⟨M,N,h1,h2,h3⟩:=List.map_eq_append_iff.1 h;exact⟨M,N,h1,h2,h3⟩
def lD(L:BL):Prop:=∀p∈L,mr p.1
theorem lD.left{a b:BL}(h:lD (a++b)):lD a:=λp hp=>h p (cc.2 (.inl hp))
theorem lD.right{a b:BL}(h:lD (a++b)):lD b:=λp hp=>h p (cc.2 (.inr hp))
theorem lD.tail{p:ab×Tok}{b:BL}(h:lD (p::b)):lD b:=λq hq=>h q (by simp[hq])
theorem lD.head{p:ab×Tok}{b:BL}(h:lD (p::b)):mr p.1:=h p ah
def Gd(f:lG)(n:Nat)(v:ao):Prop:=∀(L:BL) (s:RS) (t:ab),L.map Prod.snd=dp v->lD L->s.rest=cC L++t->(v.kind=1->tr dQ t)->s.rest.length<n->∃s',f s=some (v,s')/\fq s L s'/\s'.rest=t
def iq(k:Int)(s:bf)(i:Nat)(ps:List ao):List Tok:=(ps.zipIdx i).flatMap λp=>fW k s p.2 p.1
theorem pI(k:Int)(s:bf)(i:Nat)(p:ao)(ps:List ao):iq k s i (p::ps)=fW k s i p++iq k s (i+1) ps:=by unfold iq;rw[BV,bD]
theorem Sy{f:lG}{k:Int}{p:ao}(hp:Gd f n p){nm:ab}(hn:k=4->cX nm=true){ns:bf}{qs:List ao}{L:BL}{s:RS}{t:ab}
  (hL:L.map Prod.snd=(if k=4 then[nm,[58]]else[])++dp p) (hb:lD L) (hs:s.rest=cC L++t) (ht:tr dQ t) (hl:s.rest.length<n) :
  ∃s',jk f k (ns,qs,s)=some (if k=4 then ns++[nm]else ns,qs++[p],s')/\fq s L s'/\s'.rest=t:=by
 by_cases hk:k=4
 ·rw[ag hk]at hL;obtain⟨b1,M1,rfl,AN⟩:=ow hL;obtain⟨b2,M2,rfl,Hq⟩:=ow AN;have q1:s.rest=b1++(nm++(b2++58::(cC M2++t))):=by rw[hs];simp[cC]
  obtain⟨s1,e1,r1,t1⟩:=agA q1 hb.head (hn hk) (Bs (λ_=>aa3) hb.tail.head ai _);obtain⟨s2,e2,r2,t2⟩:=FD t1 hb.tail.head ai;obtain⟨s3,e3,r3,t3⟩:=hp M2 s2 t Hq hb.tail.tail t2 (λ_=>ht) (by have:=ax bU q1;simp only[ak,aq]at this;rw[t2,ak];omega)
  refine⟨s3,?_,(r1.trans r2).trans r3,t3⟩;unfold jk nj;rw[ag hk,ag hk];simp only[e1,e2,e3]
 rw[ae hk]at hL;obtain⟨s3,e3,r3,t3⟩:=hp L s t hL hb hs (λ_=>ht) hl;refine⟨s3,?_,r3,t3⟩;unfold jk nj;rw[ae hk,ae hk];simp only[e3]
theorem Vq{f:lG}{n:Nat}{k:Int}{e:UInt8}(he:bB e=false)(he':dQ e=false)(ob:e≠44){ns:bf}{b1 t:ab}(hb1:mr b1)(hns:k=4->∀x∈ns,cX x=true):∀(rs:List ao) (qs:List ao) (M:BL) (s:RS) (m:Nat),
  (∀p∈rs,Gd f n p)->qs.length≠0->(k=4->qs.length+rs.length=ns.length)->(k≠4->ns=[])->M.map Prod.snd=iq k ns qs.length rs->lD M->s.rest=cC M++(b1++e::t)->s.rest.length<n->s.rest.length<m ->
  ∃s',py f k m (ns.take qs.length,qs,s)=some (ns,qs++rs,s')/\fq s M s'/\s'.rest=b1++e::t
 | [],qs,M,s,0,_,_,_,_,_,_,_,_,hm=>by omega
 | [],qs,M,s,m+1,_,hq,hl,hz,hM,hb,hs,hn,hm=>by
  obtain rfl:M=[]:=by
   cases M with
   | nil=>rfl
   | cons p M=>simp[iq]at hM
  have hs:s.rest=b1++e::t:=by rw[hs];rfl
  refine⟨s,?_,fq.refl s,hs⟩;rw[py,qp hs hb1 he];simp only;rw[ae ob];have e1:ns.take qs.length=ns:=by
   by_cases hk:k=4
   ·have:=hl hk;rw[List.take_of_length_le (by simp at this;omega)]
   rw[hz hk];simp
  rw[e1,aZ]
 | p::rs,qs,M,s,0,_,_,_,_,_,_,_,_,hm=>by omega
 | p::rs,qs,M,s,m+1,hp,hq,hl,hz,hM,hb,hs,hn,hm=>by
  rw[pI]at hM;unfold fW at hM;rw[ae hq,bj]at hM;obtain⟨b2,M1,rfl,Dt⟩:=ow hM;replace Dt:M1.map Prod.snd=((if k=4 then[ns.getD qs.length [],[58]]else[])++dp p)++iq k ns (qs.length+1) rs:=Dt;obtain⟨M2,M3,rfl,s7,o8⟩:=NU Dt;have q1:s.rest=b2++44::(cC M2++(cC M3++(b1++e::t))):=by rw[hs];simp[cC]
  obtain⟨s1,e1,r1,t1⟩:=FD q1 hb.head ai;have hlen:=ax bU q1;simp only[ak,aq]at hlen;have hstop:tr dQ (cC M3++(b1++e::t)):=by
   cases rs with
   | nil =>
    obtain rfl:M3=[]:=by
     cases M3 with
     | nil=>rfl
     | cons p M=>simp[iq]at o8
    exact Bs (λ_=>CP) hb1 he' _
   | cons p' rs =>
    rw[pI]at o8;unfold fW at o8;rw[ae aa,bj]at o8;obtain⟨b3,M4,rfl,_⟩:=ow o8;have:cC ((b3,[44])::M4)++(b1++e::t)=b3++44::(cC M4++(b1++e::t)):=by simp[cC]
    rw[this];exact Bs (λ_=>CP) (hb.tail.right).head ai _
  have hnm:k=4->cX (ns.getD qs.length [])=true:=λhk=>by
   have:=hl hk;simp only[aq]at this;have hlt:qs.length<ns.length:=aa;have e:ns.getD qs.length []=ns[qs.length]:=by simp[List.getD,hlt]
   rw[e];exact hns hk _ (bS hlt)
  obtain⟨s2,e2,r2,t2⟩:=Sy (ns:=ns.take qs.length) (qs:=qs) (hp p ah) hnm s7 hb.tail.left t1 hstop (by rw[t1];simp only[ak,aq];omega);have e3:(if k=4 then ns.take qs.length++[ns.getD qs.length []]else ns.take qs.length)=ns.take (qs++[p]).length:=by
   by_cases hk:k=4
   ·have:=hl hk;simp only[aq]at this;have hlt:qs.length<ns.length:=aa;rw[ag hk,ak,bT,bK hlt];congr 2;simp[List.getD,hlt]
   rw[ae hk,hz hk];simp
  obtain⟨s3,e4,r3,t3⟩:=Vq he he' ob hb1 hns rs (qs++[p]) M3 s2 m (λx hx=>hp x (by simp[hx])) ah (λhk=>by have:=hl hk;simp at *;omega) hz (by rw[ak,bT];exact o8) hb.tail.right t2
   (by rw[t2];simp only[ak,aq];omega) (by rw[t2];simp only[ak,aq];omega)
  refine⟨s3,?_,?_,t3⟩
  ·rw[py,qp q1 hb.head ai];simp only;rw[ag trivial,e1];simp only;rw[e2];simp only;rw[e3,e4,bj];rfl
  have:=(r1.trans r2).trans r3;simpa using this
theorem Vv{f:lG}{k:Int}{ns:bf}{ps:List ao}(_:k=3\/k=4)(hp:∀p∈ps,Gd f n p)(hns:k=4->∀x∈ns,cX x=true)(hl:k=4->ps.length=ns.length)(hz:k≠4->ns=[])
  {L:BL} {s:RS} {t:ab} (hL:L.map Prod.snd=ko k::(eG k ns ps++[gG k])) (hb:lD L) (hs:s.rest=cC L++t) (hn:s.rest.length<n+1):∃s',ql f k s=some (ns,ps,s')/\fq s L s'/\s'.rest=t:=by
 have Ux:bB (if k=4 then(123:UInt8)else 91)=false:=by split<;>decide
 have DP:bB (if k=4 then(125:UInt8)else 93)=false:=by split<;>decide
 have MA:dQ (if k=4 then(125:UInt8)else 93)=false:=by split<;>decide
 have T0:(if k=4 then(125:UInt8)else 93)≠44:=by split<;>decide
 obtain⟨b0,M0,rfl,hL0⟩:=ow hL;obtain⟨M,N,rfl,hM,hN⟩:=NU hL0;obtain⟨b1,N1,rfl,Hr⟩:=ow hN;obtain rfl:N1=[]:=by
  cases N1 with
  | nil=>rfl
  | cons p M=>simp at Hr
 generalize ho:(if k=4 then(123:UInt8)else 91)=o at Ux hs;generalize tc:(if k=4 then(125:UInt8)else 93)=e at DP MA T0 hs hb;have eo:ko k=[o]:=ax (λx=>[x]) ho;have ee:gG k=[e]:=ax (λx=>[x]) tc;rw[eo,ee]at hs;have q1:s.rest=b0++o::(cC M++(b1++e::t)):=by rw[hs];simp[cC]
 obtain⟨s1,e1,r1,t1⟩:=FD q1 hb.head Ux;have hb1:mr b1:=hb.tail.right.head;have hlen:=ax bU q1;simp only[ak,aq]at hlen;have hl1:s1.rest.length<n:=by rw[t1];simp only[ak,aq];omega
 unfold ql;rw[ho,tc,e1];simp only;cases ps with
 | nil =>
  obtain rfl:M=[]:=by
   cases M with
   | nil=>rfl
   | cons p M=>simp[FT]at hM
  obtain rfl:ns=[]:=by
   by_cases hk:k=4
   ·exact dt (by have:=hl hk;simpa using this.symm)
   exact hz hk
  have t1:s1.rest=b1++e::t:=by rw[t1];rfl
  obtain⟨s2,e2,r2,t2⟩:=FD t1 hb1 DP;refine⟨s2,?_,?_,t2⟩
  ·rw[qp t1 hb1 DP];simp only;rw[ag trivial];unfold mC;simp only[e2]
  have:=r1.trans r2;rw[eo,ee];simpa using this
 | cons p ps =>
  have hM:M.map Prod.snd=iq k ns 0 (p::ps):=hM;rw[pI]at hM;unfold fW at hM;rw[ag rfl,aL]at hM;obtain⟨M2,M3,rfl,s7,o8⟩:=NU hM;have DE:=hb.tail.left;have JU:s1.rest=cC M2++(cC M3++(b1++e::t)):=by rw[t1];simp[cC]
  have hstop:tr dQ (cC M3++(b1++e::t)):=by
   cases ps with
   | nil =>
    obtain rfl:M3=[]:=by
     cases M3 with
     | nil=>rfl
     | cons p M=>simp[iq]at o8
    exact Bs (λ_=>CP) hb1 MA _
   | cons p' rs =>
    rw[pI]at o8;unfold fW at o8;rw[ae aa,bj]at o8;obtain⟨b3,M4,rfl,_⟩:=ow o8;have:cC ((b3,[44])::M4)++(b1++e::t)=b3++44::(cC M4++(b1++e::t)):=by simp[cC]
    rw[this];exact Bs (λ_=>CP) DE.right.head ai _
  have hnm:k=4->cX (ns.getD 0 [])=true:=λhk=>by
   have:=hl hk;simp only[aq]at this;have hlt:0<ns.length:=aa;have e:ns.getD 0 []=ns[0]:=by simp[List.getD,hlt]
   rw[e];exact hns hk _ (bS hlt)
  obtain⟨s2,e2,r2,t2⟩:=Sy (ns:=[]) (qs:=[]) (hp p ah) hnm s7 DE.left JU hstop hl1;have e3:(if k=4 then[]++[ns.getD 0 []]else[])=ns.take ([p]:List ao).length:=by
   by_cases hk:k=4
   ·have:=hl hk;simp only[aq]at this;have hlt:0<ns.length:=aa;rw[ag hk,bT,bK hlt];simp[List.getD,hlt]
   rw[ae hk,hz hk];simp
  have hl2:=ax bU JU;simp only[ak,aq]at hl2
  obtain⟨s3,e4,r3,t3⟩:=Vq DP MA T0 hb1 hns ps [p] M3 s2 (s2.rest.length+1) (λx hx=>hp x (by simp[hx])) ah (λhk=>by have:=hl hk;simp at *;omega) hz o8 DE.right t2
   (by rw[t2];simp only[ak,aq];omega) aa
  obtain⟨s4,e5,r4,t4⟩:=FD t3 hb1 DP;refine⟨s4,?_,?_,t4⟩
  ·have hpk:∃c,pk s1=some c/\c≠e:=by
    by_cases hk:k=4
    ·rw[ag hk]at s7;obtain⟨b4,M4,rfl,_⟩:=ow s7;obtain⟨c,r,hc,h1,h2⟩:=yS (hnm hk);refine⟨c,qp (b:=b4) (r:=r++(cC M4++(cC M3++(b1++e::t)))) (by rw[JU,qa,hc];simp) DE.left.head (Ey aa),?_⟩;rw[<-tc,ag hk];rintro rfl;exact absurd h1 ai
    rw[ae hk,aL]at s7;have aek:∃c r A,dp p=(c::r)::A/\bB c=false/\c≠93:=by
     rw[vd];split
     ·obtain⟨c,r,hc,h1,h2⟩:=wc p.num;refine⟨c,r,[],by rw[hc],?_⟩;rcases h1 with rfl|h1
      ·decide
      simp only[dQ,eD,eQ]at h1;exact⟨Ey aa,by rintro rfl;exact absurd h1 ai⟩
     split
     ·exact⟨34,_,[],rfl,ai,ai⟩
     refine⟨_,[],_,rfl,?_,?_⟩<;>(split<;>decide)
    obtain⟨c,r,A,hA,hc,h93⟩:=aek;rw[hA]at s7;obtain⟨b4,M4,rfl,_⟩:=ow s7;refine⟨c,qp (b:=b4) (r:=r++(cC M4++(cC M3++(b1++e::t)))) (by rw[JU,qa];simp) DE.left.head hc,?_⟩;rw[<-tc,ae hk];exact h93
   obtain⟨c,hc,kH⟩:=hpk;rw[hc];simp only;rw[ae kH,e2];simp only;rw[e3];simp only[aL];rw[show(ns.take ([p]:List ao).length,[p],s2)=(ns.take ([p]:List ao).length,([p]:List ao),s2)from rfl,e4];simp only;unfold mC;simp only[e5,zh]
  have:=((r1.trans r2).trans r3).trans r4;rw[eo,ee];simpa using this
theorem aiL(hv:gY v):∀n,Gd (gr n) n v:=by
 induction hv with
 | @num k h =>
  intro n L s t hL hb hs ht hn;cases n with
  | zero=>omega
  | succ n =>
   rw[Co]at hL;obtain⟨b0,M,rfl,hM⟩:=ow hL;obtain rfl:M=[]:=by
    cases M with
    | nil=>rfl
    | cons p M=>simp at hM
   have q1:s.rest=b0++(Lib.itoa k++t):=by rw[hs];simp[cC]
   obtain⟨c,r,hc,h1,h2,h3,h4⟩:=Im k;obtain⟨s1,e1,r1,t1⟩:=agK q1 hb.head h (ht rfl);refine⟨s1,?_,r1,t1⟩;rw[gr,qp (b:=b0) (c:=c) (r:=r++t) (by rw[q1,hc];rfl) hb.head h1];simp only;rw[ae h2,ae h3,ae h4,e1];rfl
 | j4 x =>
  intro n L s t hL hb hs ht hn;cases n with
  | zero=>omega
  | succ n =>
   rw[zD]at hL;obtain⟨b0,M,rfl,hM⟩:=ow hL;obtain rfl:M=[]:=by
    cases M with
    | nil=>rfl
    | cons p M=>simp at hM
   have q1:s.rest=b0++(js x++t):=by rw[hs];simp[cC]
   obtain⟨s1,e1,r1,t1⟩:=alo q1 hb.head;refine⟨s1,?_,r1,t1⟩;rw[gr,qp (b:=b0) (c:=34) (r:=eF x++[34]++t) (by rw[q1];rfl) hb.head ai];simp only;rw[ag trivial,e1];rfl
 | uO h ih =>
  intro n L s t hL hb hs ht hn;cases n with
  | zero=>omega
  | succ n =>rw[zE]at hL;obtain⟨s1,e1,r1,t1⟩:=Vv (k:=3) (.inl rfl) (λp hp=>ih p hp n) (λh=>absurd h ai) (λh=>absurd h ai) (λ_=>rfl) hL hb hs hn;refine⟨s1,?_,r1,t1⟩;obtain⟨b0,M,rfl,hM⟩:=ow hL;rw[gr,qp (b:=b0) (c:=91) (r:=cC M++t) (by rw[hs,qa];simp) hb.head ai];simp only;rw[ae ai,ag trivial,e1];rfl
 | u5 hs1 hl1 h ih =>
  intro n L s t hL hb hs ht hn;cases n with
  | zero=>omega
  | succ n =>rw[zF]at hL;obtain⟨s1,e1,r1,t1⟩:=Vv (k:=4) (.inr rfl) (λp hp=>ih p hp n) (λ_=>hs1) (λ_=>hl1.symm) (λh=>absurd rfl h) hL hb hs hn;refine⟨s1,?_,r1,t1⟩;obtain⟨b0,M,rfl,hM⟩:=ow hL;rw[gr,qp (b:=b0) (c:=123) (r:=cC M++t) (by rw[hs,qa];simp) hb.head ai];simp only;rw[ae ai,ae ai,ag trivial,e1];rfl
structure Fit(l:ab)(v:ao)(L:BL)(lb:ab):Prop where
 eq:l=cC L++lb
 bk:lD L
 bl:mr lb
 tk:L.map Prod.snd=dp v
 wf:gY v
abbrev lg(L:BL)(lb:ab):List (Nat×ab):=iw 0 false L++(if lb=[10]then[]else[(L.length,lb)])
theorem dropWhile_nil(h:l.dropWhile p=[]):(∀c∈l,p c=true)/\l.takeWhile p=l:=by
 have e:l.takeWhile p=l:=by conv=>rhs;rw[<-pE (p:=p) (l:=l),h,aZ]
 exact⟨by rw[<-e];exact JX,e⟩
theorem YQ{o:List (Nat×ab)}(h:sL l=some (v,o)):∃L lb,Fit l v L lb/\o=lg L lb:=by
 unfold sL at h;split at h
 ·cases h
 rename_i v' s hv;split at h
 ·rename_i hr;cases h;obtain⟨L,h1,h2,h3⟩:=Jw _ _ _ _ hv;obtain⟨h4,h5⟩:=dropWhile_nil (show s.rest.dropWhile bB=[]from hr);refine⟨L,s.rest,⟨h1.rest,h1.bk,h4,h2,h3⟩,?_⟩;have e1:=h1.ia;have e2:=h1.cnt;simp only[aL,dR]at e1 e2;simp only[sK,h5,e1,e2,lg];split
  ·simp;rfl
  rfl
 cases h
theorem ak8{L:BL}(h:Fit l v L lb):sL l=some (v,lg L lb):=by
 have hst:tr dQ lb:=λc r e=>CP (h.bl c (by rw[e];simp));obtain⟨s,e1,r1,t1⟩:=aiL h.wf (l.length+1) L ⟨l,0,[],[]⟩ lb h.tk h.bk h.eq (λ_=>hst) (Nat.lt_succ_self _);have q1:s.rest.dropWhile bB=[]:=by rw[t1];simpa using(qJ (p:=bB) h.bl (t:=[]) (λc r e=>by cases e)).2
 have q2:s.rest.takeWhile bB=lb:=by rw[t1];simpa using(qJ (p:=bB) h.bl (t:=[]) (λc r e=>by cases e)).1
 unfold sL;rw[e1];simp only;rw[ag (show(sK [10] s).rest=[]from q1)];have e3:=r1.ia;have e2:=r1.cnt;simp only[aL,dR]at e3 e2;simp only[sK,q2,e3,e2,lg];split
 ·simp;rfl
 rfl
abbrev kG:=Nat×ab
abbrev gC(x:kG):ab:=az x.1++eh x.2
def nN(o:List kG):ab:=if o=[]then[]else cm gC o
def IU(b:ab)(p:Nat):lE (Int×ab):=match fN b p with
 | .bad c i=>.bad c i
 | .ok n q=>match GM b q with
  | .bad c i=>.bad c i
  | .ok t r=>.ok (n,t) r
def okB(z:List (Int×ab)):Prop:=(∀x∈z,(0<=x.1/\x.1<=2000)/\∀c∈x.2,bB c=true)/\z.Pairwise λx y=>x.1<y.1
instance(z:List (Int×ab)):Decidable (okB z):=by unfold okB;infer_instance
def PZ(b:ab):Option (List (Int×ab)):=match iZ b (IU b) 1000 0 with
 | .bad _ _=>none
 | .ok z q=>if q=b.length then some z else none
def FW(b:ab):Option (List kG):=if b=[]then some []else match PZ b with
 | none=>none
 | some z=>if z≠[]/\okB z then some (z.map λx=>(x.1.toNat,x.2))else none
def iG(l:ab):Option (ao×ab):=match sL l with
 | none=>none
 | some (v,o)=>if(ct v).1=0 then some (v,nN o)else none
structure QE where
 out:ab
 cnt:Nat
 last:Tok
def ou(Z:List kG)(i:Nat):fV:=(Z.find? λx=>decide (x.1=i)).map Prod.snd
def Cm(Z:List kG)(s:QE)(t:Tok):QE:=⟨s.out++(match ou Z s.cnt with
 | some b=>b
 | none=>if t=[]then[10]else ju (af s.last))++t,s.cnt+1,t⟩
def FV(v:ao)(Z:List kG):ab:=(Cm Z ((dp v).foldl (Cm Z) ⟨[],0,[]⟩) []).out
def alb(v:ao):Option ao:=some v
noncomputable def J5(v:ao)(b:ab):fV:=match FW b with
 | none=>none
 | some Z=>open Classical in if(FV v Z).length<=1000/\iG (FV v Z)=some (v,b)then some (FV v Z)else none
abbrev afR:ab:=[98,108,97,110,107,115]
def YS(b:ab):Option (List pN):=match FW b with
 | none=>none
 | some Z=>some (if Z.length=0 then[]else[(afR,(Z.length:Int))])
theorem ahh(hn:n<=1000000)(ht:t.length<=1000000)(l r:ab):IU (l++(gC (n,t)++r)) l.length=.ok ((n:Int),t) (l.length+(gC (n,t)).length):=by
 unfold IU;have e1:l++(gC (n,t)++r)=l++(az (n:Int)++(eh t++r)):=by simp[gC]
 have e2:l++(gC (n,t)++r)=(l++az (n:Int))++(eh t++r):=by simp[gC]
 have h1:=mM (n:=(n:Int)) aa aa l (eh t++r);rw[<-e1]at h1;have h2:=Rn (b:=t) aa (l++az (n:Int)) r;rw[<-e2,ak]at h2;rw[h1];simp only;rw[h2];simp only[gC,ak,wM]
abbrev zB(Z:List kG):List (Int×ab):=Z.map λx=>((x.1:Int),x.2)
theorem ak9{Z:List kG}(hl:Z.length<=1000)(hz:∀x∈Z,x.1<=1000000/\x.2.length<=1000000):PZ (cm gC Z)=some (zB Z):=by
 obtain⟨b,hb⟩:∃b,b=cm gC Z:=⟨_,rfl⟩
 rw[<-hb];have e2:b=[]++(az (Z.length:Int)++(Z.flatMap gC++[])):=by rw[hb,cm,aZ];rfl
 have n2:=mM (n:=(Z.length:Int)) aa aa [] (Z.flatMap gC++[]);rw[<-e2]at n2;have hbl:=ax bU e2;simp only[ak,aK,dR,ln]at hbl;simp only[aK,dR]at n2;have n3:=Bl (f:=λx:Int×ab=>gC (x.1.toNat,x.2)) (b:=b) (one:=IU b) (zB Z) (az (Z.length:Int)).length aa (λx hx q r hq hd=>by
  obtain⟨n,hn,rfl⟩:=cJ.1 hx;obtain⟨n,t⟩:=n;have:=hz _ hn;dsimp only at this;have e:b=b.take q++(gC (n,t)++r):=by simp only[jr]at hd;rw[<-hd,eW]
  have cD:(b.take q).length=q:=by simp;omega
  have:=ahh this.1 this.2 (b.take q) r;rw[cD,<-e]at this;simpa using this) [] (by
   conv=>lhs;rw[e2]
   rw[aL,kN];congr 1;simp[zB,se])
 unfold PZ iZ;rw[n2];simp only;rw[ae aa,jr];have tn:(zB Z).length=Z.length:=by simp[zB]
 rw[tn]at n3;rw[n3];simp only;have e3:((zB Z).flatMap λx=>gC (x.1.toNat,x.2))=Z.flatMap gC:=by simp[zB,se]
 rw[e3,ag aa]
theorem amv(Z:List kG):((zB Z).map λx=>(x.1.toNat,x.2))=Z:=by
 unfold zB;rw[pD];conv=>rhs;rw[<-ze Z]
 exact qz λx _=>by simp
theorem ala{Z:List kG}(hl:Z.length<=1000)(hz:∀x∈Z,(x.1<=2000/\x.2.length<=1000000)/\mr x.2)(hs:Z.Pairwise λx y=>x.1<y.1):FW (nN Z)=some Z:=by
 unfold nN;split
 ·rename_i h;rw[h];rfl
 rename_i hne;unfold FW;rw[ae,ak9 hl λx hx=>by have:=hz x hx;exact⟨aa,aa⟩]
 ·simp only;rw[ag,amv];refine⟨λq=>hne (by simpa [zB]using q),?_,?_⟩
  ·intro x hx;obtain⟨y,hy,rfl⟩:=cJ.1 hx;have:=hz y hy;exact⟨⟨by dsimp only;omega,by dsimp only;omega⟩,this.2⟩
  rw[ah5];exact hs.imp λh=>by dsimp only;omega
 intro h;have:=ax bU h;have:=qq (zz (Z.length:Int));simp only[cm,ak,az,aK]at *;omega
theorem Dc:∀ {L:BL} {i:Nat} {sp:Bool} {x:kG},x∈iw i sp L->i<=x.1/\x.1<i+L.length/\∃p∈L,p.1=x.2
 | [],i,sp,x,h=>by simp[iw]at h
 | p::L,i,sp,x,h=>by
  rw[iw]at h;rcases cc.1 h with h|h
  ·split at h
   ·simp at h
   simp only[cz]at h;subst h;exact⟨aQ _,ah,p,ah,rfl⟩
  obtain⟨h1,h2,q,hq,h3⟩:=Dc h;exact⟨aa,by simp;omega,q,by simp[hq],h3⟩
theorem Sm:∀(L:BL) (i:Nat) (sp:Bool),(iw i sp L).Pairwise λx y=>x.1<y.1
 | [],i,sp=>List.Pairwise.nil
 | p::L,i,sp=>by
  rw[iw];refine BN.2 ⟨by split<;>simp,Sm L _ _,λx hx y hy=>?_⟩;have:=(Dc hy).1;split at hx
  ·simp at hx
  simp only[cz]at hx;subst hx;dsimp only;omega
theorem Lh:∀(L:BL) (i:Nat) (sp:Bool),(∀p∈L,p.2≠[])->(iw i sp L).length<=(cC L).length/\(sp=false->L≠[]->(iw i sp L).length+1<=(cC L).length)/\L.length<=(cC L).length
 | [],i,sp,_=>by simp[iw,cC]
 | p::L,i,sp,h=>by
  obtain⟨h1,_,h3⟩:=Lh L (i+1) (af p.2) λq hq=>h q (by simp[hq]);have h2:1<=p.2.length:=by
   have:=h p ah;cases hp:p.2 with
   | nil=>exact absurd hp this
   | cons c r=>simp
  rw[qa,iw];simp only[ak,aq];refine⟨?_,λhsp _=>?_,aa⟩
  ·split<;>simp<;>omega
  split
  ·simp;omega
  rename_i hne;subst hsp;have:p.1.length≠0:=λe=>hne (by rw[dt e];rfl);simp;omega
theorem PU{t:Tok}(hv:gY v)(h:t∈dp v):∃c r,t=c::r/\bB c=false:=by
 induction hv with
 | num h1 =>rw[Co]at h;simp only[cz]at h;subst h;obtain⟨c,r,hc,h2,_⟩:=Im _;exact⟨c,r,hc,h2⟩
 | j4 x =>rw[zD]at h;simp only[cz]at h;subst h;exact⟨34,_,rfl,ai⟩
 | uO h1 ih =>
  rw[zE]at h;rcases bP.1 h with rfl|h
  ·exact⟨91,[],rfl,ai⟩
  rcases cc.1 h with h|h
  ·unfold eG fW at h;obtain⟨p,hp,h⟩:=uY.1 h;rcases cc.1 h with h|h
   ·split at h
    ·simp at h
    simp only[cz]at h;subst h;exact⟨44,[],rfl,ai⟩
   rw[ae (show ¬((3:Int)=4)by decide),aL]at h;refine ih p.1 ?_ h;obtain⟨i,hi⟩:=BP.1 hp;rw[OE]at hi;obtain⟨x,hx,rfl⟩:=iB.1 hi;exact jX hx
  simp only[cz]at h;subst h;exact⟨93,[],rfl,ai⟩
 | u5 hs hl h1 ih =>
  rw[zF]at h;rcases bP.1 h with rfl|h
  ·exact⟨123,[],rfl,ai⟩
  rcases cc.1 h with h|h
  ·unfold eG fW at h;obtain⟨p,hp,h⟩:=uY.1 h;obtain⟨i,hi⟩:=BP.1 hp;rw[OE]at hi;obtain⟨x,hx,rfl⟩:=iB.1 hi;rcases cc.1 h with h|h
   ·split at h
    ·simp at h
    simp only[cz]at h;subst h;exact⟨44,[],rfl,ai⟩
   rw[ag (by simp only)]at h;rcases cc.1 h with h|h
   ·rcases bP.1 h with rfl|h
    ·have hlt:=(dH.1 hx).1;simp only[dR]at hlt |-;rw[<-hl]at hlt;rw[List.getD,bz hlt,Option.getD_some];obtain⟨c,r,hc,h2,_⟩:=yS (hs _ (bS hlt));exact⟨c,r,hc,Ey aa⟩
    simp only[cz]at h;subst h;exact⟨58,[],rfl,ai⟩
   exact ih x (jX hx) h
  simp only[cz]at h;subst h;exact⟨125,[],rfl,ai⟩
theorem Fit.ne{L:BL}(h:Fit l v L lb):∀p∈L,p.2≠[]:=by intro p hp;obtain⟨c,r,hc,_⟩:=PU h.wf (t:=p.2) (by rw[<-h.tk];exact cJ.2 ⟨p,hp,rfl⟩);rw[hc];simp
theorem FU(v:ao):dp v≠[]:=by
 rw[vd];split
 ·simp
 split<;>simp
theorem Fit.agI{L:BL}(h:Fit l v L lb):L≠[]:=by rintro rfl;exact FU v h.tk.symm
theorem Fit.bounds{L:BL}(h:Fit l v L lb)(hl:l.length<=1000):(lg L lb).length<=1000/\L.length<=1000/\(∀x∈lg L lb,(x.1<=2000/\x.2.length<=1000)/\mr x.2)/\(lg L lb).Pairwise λx y=>x.1<y.1:=by
 obtain⟨h1,h2,h3⟩:=Lh L 0 false h.ne;have h2:=h2 rfl h.agI;have hlen:=ax bU h.eq;rw[ak]at hlen;refine⟨?_,aa,?_,?_⟩
 ·rw[ak];split<;>simp<;>omega
 ·intro x hx;rcases cc.1 hx with hx|hx
  ·obtain⟨q1,q2,p,hp,q3⟩:=Dc hx;refine⟨⟨aa,?_⟩,by rw[<-q3];exact h.bk p hp⟩;rw[<-q3];have:p.1.length<=(cC L).length:=by obtain⟨A,B,hAB⟩:=List.append_of_mem hp;rw[hAB,LG,qa];simp only[ak];omega
   omega
  split at hx
  ·simp at hx
  simp only[cz]at hx;subst hx;exact⟨⟨by dsimp only;omega,by dsimp only;omega⟩,h.bl⟩
 refine BN.2 ⟨Sm L 0 false,by split<;>simp,λx hx y hy=>?_⟩;have:=(Dc hx).2.1;split at hy
 ·simp at hy
 simp only[cz]at hy;subst hy;dsimp only;omega
theorem Td(Z:List kG):∀(L:BL) (E:List kG) (i:Nat) (ls:Tok) (out:ab),(∀p∈L,p.2≠[])->(∀x∈E,i+L.length<=x.1)->(∀j,i<=j->ou Z j=ou (iw i (af ls) L++E) j) ->
  ∃Iv,(L.map Prod.snd).foldl (Cm Z) ⟨out,i,ls⟩=⟨out++cC L,i+L.length,Iv⟩/\∀j,i+L.length<=j->ou Z j=ou E j
 | [],E,i,ls,out,_,_,h=>⟨ls,by simp[cC],λj hj=>by rw[h j hj];rfl⟩
 | p::L,E,i,ls,out,hne,hE,h=>by
  have oo:ou (iw (i+1) (af p.2) L++E) i=none:=by
   unfold ou;rw[List.find?_eq_none.2]
   ·rfl
   intro x hx;simp only[eQ];rcases cc.1 hx with hx|hx
   ·have:=(Dc hx).1;omega
   have:=hE x hx;simp only[aq]at this;omega
  have yE:Cm Z ⟨out,i,ls⟩ p.2=⟨out++(p.1++p.2),i+1,p.2⟩:=by
   unfold Cm;have h0:=h i (aQ _);rw[iw]at h0;by_cases he:p.1=ju (af ls)
   ·rw[ag he,aL,oo]at h0;simp only[h0];rw[ae (hne p ah),<-he,bj]
   rw[ae he]at h0;have:ou ([(i,p.1)]++iw (i+1) (af p.2) L++E) i=some p.1:=by simp[ou]
   rw[this]at h0;simp only[h0,bj]
  have hnext:∀j,i+1<=j->ou Z j=ou (iw (i+1) (af p.2) L++E) j:=by
   intro j hj;rw[h j aa,iw];split
   ·rfl
   unfold ou;rw[bj,zh,List.find?_cons_of_neg];simp only[eQ];omega
  obtain⟨Iv,h1,h2⟩:=Td Z L E (i+1) p.2 (out++(p.1++p.2)) (λq hq=>hne q (by simp[hq])) (λx hx=>by have:=hE x hx;simp only[aq]at this;omega) hnext;refine⟨Iv,?_,λj hj=>h2 j (by simp only[aq]at hj;omega)⟩;rw[fO,List.foldl_cons,yE,h1,qa,aq,show i+1+L.length=i+(L.length+1)by omega];simp[bj]
theorem Fit.out{L:BL}(h:Fit l v L lb):FV v (lg L lb)=l:=by
 unfold FV;rw[<-h.tk];obtain⟨Iv,h1,h2⟩:=Td (lg L lb) L (if lb=[10]then[]else[(L.length,lb)]) 0 [] [] h.ne (λx hx=>by
  split at hx
  ·simp at hx
  simp only[cz]at hx;subst hx;dsimp only;omega) (λj _=>rfl)
 rw[h1];unfold Cm;simp only[dR,aL,aZ]at h2 |-;rw[h2 _ (aQ _),h.eq];by_cases hb:lb=[10]
 ·rw[ag hb];simp[ou,hb]
 rw[ae hb];simp[ou]
theorem P0(h:iG l=some (v,r)):∃L lb,Fit l v L lb/\r=nN (lg L lb)/\(ct v).1=0:=by
 unfold iG at h;split at h
 ·cases h
 rename_i v' o hr;split at h
 ·rename_i hv;cases h;obtain⟨L,lb,h1,rfl⟩:=YQ hr;exact⟨L,lb,h1,rfl,hv⟩
 cases h
theorem alc{L:BL}(h:Fit l v L lb)(hv:(ct v).1=0):iG l=some (v,nN (lg L lb)):=by unfold iG;rw[ak8 h];simp only;rw[ag hv]
theorem ale(hl:l.length<=1000)(h:iG l=some (v,r)):J5 v r=some l/\∃Z,FW r=some Z/\(Z=[]↔r=[])/\Z.length<=1000/\r.length<=100000000:=by
 obtain⟨L,lb,h1,rfl,hv⟩:=P0 h;obtain⟨q1,q2,q3,q4⟩:=h1.bounds hl;have hrd:=ala q1 (λx hx=>by have:=q3 x hx;exact⟨⟨this.1.1,aa⟩,this.2⟩) q4;refine⟨?_,_,hrd,?_,q1,?_⟩
 ·unfold J5;rw[hrd];simp only;rw[h1.out,ag ⟨hl,h⟩]
 ·constructor
  ·intro e;rw[e];rfl
  intro e;rw[e]at hrd;exact(Option.some.inj hrd).symm
 unfold nN;split
 ·simp
 have hm:=wD (f:=gC) (m:=2000) (l:=lg L lb) aa (λx hx=>by have:=(q3 x hx).1;have a1:=dq (n:=(x.1:Int)) aa aa;have a2:=rW (b:=x.2) aa;simp only[gC,ak];omega)
 have:(lg L lb).length*2000<=1000*2000:=Nat.mul_le_mul_right _ q1;omega
abbrev jJ(t:List Tok):Nat:=(t.map bU).sum
theorem NI(a b:List Tok):jJ (a++b)=jJ a+jJ b:=by simp[jJ]
theorem Vg(hv:gY v):1<=jJ (dp v):=by
 cases h:dp v with
 | nil=>exact absurd h (FU v)
 | cons t r =>obtain⟨c,x,hc,_⟩:=PU hv (t:=t) (by rw[h];simp);simp[jJ,hc];omega
theorem NJ(k:Int)(s:bf):∀(ps:List ao) (i:Nat),(∀p∈ps,gY p)->ps.length<=jJ (iq k s i ps)/\∀p∈ps,jJ (dp p)<=jJ (iq k s i ps)
 | [],i,_=>by simp
 | p::ps,i,h=>by
  obtain⟨h1,h2⟩:=NJ k s ps (i+1) λq hq=>h q (by simp[hq]);have h3:=Vg (h p ah);have h4:jJ (dp p)<=jJ (fW k s i p):=by unfold fW;rw[NI,NI];omega
  rw[pI,NI];refine⟨by simp only[aq];omega,λq hq=>?_⟩;rcases bP.1 hq with rfl|hq
  ·omega
  have:=h2 q hq;omega
theorem Zz(hv:gY v){N:Nat}(h32:32<=N)(hN:jJ (dp v)<=N):VB N v:=by
 induction hv with
 | num h=>exact Cu h
 | j4 b =>
  rw[zD]at hN;refine zL ?_;have:b.length<=(eF b).length:=by
   unfold eF;clear hN;induction b with
   | nil=>simp
   | cons c b ih =>obtain⟨x,r,hx,_⟩:=Xp c;rw[bD,ak,hx];simp only[aq];omega
  simp[jJ,js]at hN;omega
 | @uO ps h ih =>
  rw[zE]at hN;have e:jJ (ko 3::(eG 3 [] ps++[gG 3]))=1+jJ (iq 3 [] 0 ps)+1:=by simp[jJ,eG,iq];omega
  rw[e]at hN;obtain⟨h1,h2⟩:=NJ 3 [] ps 0 h;exact .mk (kj 3) (kj 0) (cE _) (cE _) ah (by simp only[ao.parts];omega) λp hp=>ih p hp (by have:=h2 p hp;omega)
 | @u5 s ps hs hl h ih =>
  rw[zF]at hN;have e:jJ (ko 4::(eG 4 s ps++[gG 4]))=1+jJ (iq 4 s 0 ps)+1:=by simp[jJ,eG,iq];omega
  rw[e]at hN;obtain⟨h1,h2⟩:=NJ 4 s ps 0 h;exact .mk (kj 4) (kj 0) (cE _) (by simp only[ao.names];omega) (λx hx=>by have:=EH (hs x hx);omega) (by simp only[ao.parts];omega) λp hp=>ih p hp (by have:=h2 p hp;omega)
theorem LH(L:BL):jJ (L.map Prod.snd)<=(cC L).length:=by
 induction L with
 | nil=>exact aQ _
 | cons p L ih =>rw[qa];simp only[jJ,fO,List.sum_cons,ak]at ih |-;omega
theorem Fit.vb{L:BL}(h:Fit l v L lb)(hl:l.length<=1048576):VB 1048576 v:=by refine Zz h.wf ai ?_;have h1:=LH L;have h2:=ax bU h.eq;rw[ak]at h2;rw[<-h.tk];omega
theorem alf(hl:b.length<=1000)(h:iG b=some (v,r)):VB 1048576 v/\(ct v).1=0/\(alb v).isSome=true/\J5 v r=some b/\r.length<=100000000/\∃ls,YS r=some ls/\ls.length<=4/\(ls=[]↔r=[]):=by
 obtain⟨L,lb,h1,rfl,hv⟩:=P0 h;obtain⟨fM,Z,hZ,hZ0,hZ1,hr⟩:=ale hl h;refine⟨h1.vb aa,hv,rfl,fM,hr,_,by unfold YS;rw[hZ],?_,?_⟩
 ·split<;>simp
 rw[<-hZ0];constructor
 ·intro e;split at e
  ·rename_i h0;exact dt h0
  cases e
 intro e;rw[e];rfl
end Go.Proofs.YtmoiobegbpkkbaaGreatDoor
