import Derived.Test.YtmoiobegbpkkbaaGreatDoorTAG
open Bool renaming false_eq_true->sw,false_and->qw,false_ne_true->Fe
open Decidable renaming byContradiction->E5
open Go.Value renaming int->bO
open Int renaming natCast_mul->so
open List renaming range->bZ,append_nil->aZ,length_nil->aK,drop_take->u4,length_cons->aq,take_of_length_le->bJ,drop_of_length_le->fc,drop_drop->gK,append_assoc->bj,cons_append->bb,nil_append->aL,mem_map->cJ,length_append->ak,length_take->bg,length_drop->aU,take_zero->kM,length_singleton->bT,length->bU,flatMap_cons->bD,mem_append->cc,mem_range->oG,eq_nil_of_length_eq_zero->dt,nodup_append->rZ,mem_of_getElem?->jX,getElem_mem->bS,mem_of_mem_take->nG,take_succ_eq_append_getElem->bK,take_length->fA,drop_eq_getElem_cons->dk,getElem?_append_left->qx,flatMap_append->cw,flatMap_nil->eL,mem_singleton->cz,length_pos_iff->iC,getElem?_eq_getElem->bz,flatMap_map->se,drop_zero->lj,eq_nil_or_concat->uZ,head?_cons->gJ,set_cons_zero->bH,flatten_append->BR,flatten_nil->BS,length_map->aW,map_append->dU,range_succ->oH,map_singleton->zd,mem_iff_getElem->Ji,concat_eq_append->Fc,flatten_singleton->Jj
open List.cons renaming injEq->gp,inj->OQ
open Nat renaming le_refl->aQ,pow_succ->OV,mul_comm->lP,zero_le->cE,mul_assoc->BO,pow_le_pow_right->E4,one_mul->W9,sub_self->Jf,mul_le_mul->mg
open Option.some renaming inj->dT
open UInt8 renaming ofNat->aD,toNat_inj->bL
namespace Go.Proofs.YtmoiobegbpkkbaaGreatDoor
open Go Go.RowKit
set_option maxRecDepth 100000
set_option maxHeartbeats 8000000
variable{V W:ad}
variable{f w x sh:Nat}{pal:List cd}{y:Int}{c a b:UInt8}{l row t:ab}{lo o:Bool}{R:List (List bQ)}
abbrev sU(row:ab)(i:Nat):Nat:=(z8 row (i/8)).toNat/2^(7-i%8)%2
def gN(row:ab)(a:Nat):Nat->Nat
 | 0=>0
 | k+1=>2*gN row a k+sU row (a+k)
theorem Q4(row:ab)(i:Nat):sU row i<2:=Nat.mod_lt _ ai
theorem SU(row:ab)(a:Nat):∀m,gN row a m<2^m
 | 0=>by simp[gN]
 | m+1=>by have:=SU row a m;have:=Q4 row (a+m);unfold gN;rw[OV];omega
theorem xJ{row:ab}{a:Nat}:∀ {m:Nat},gN row a m=0↔∀j,j<m->sU row (a+j)=0
 | 0=>by simp[gN]
 | m+1=>by
  unfold gN;constructor
  ·intro h j hj;by_cases e:j=m
   ·rw[e];omega
   exact(xJ (m:=m)).1 aa j aa
  intro h;rw[(xJ (m:=m)).2 λj hj=>h j aa,h m aa]
theorem Lz(row:ab)(a m:Nat):∀n,gN row a (m+n)=gN row a m*2^n+gN row (a+m) n
 | 0=>by simp[gN]
 | n+1=>by
  have:=Lz row a m n;show 2*gN row a (m+n)+sU row (a+(m+n))=_*2^(n+1)+(2*gN row (a+m) n+sU row (a+m+n))
  rw[this,OV,Nat.add_assoc a m n,Nat.mul_add,<-BO,<-BO,lP 2 (gN row a m)];have:=Nat.mul_right_comm (gN row a m) 2 (2^n);omega
theorem mv(row:ab)(k j:Nat)(hj:j<8):sU row (8*k+j)=(z8 row k).toNat/2^(7-j)%2:=by unfold sU;rw[show(8*k+j)/8=k by omega,show(8*k+j)%8=j by omega]
theorem He(row:ab)(k:Nat):gN row (8*k) 8=(z8 row k).toNat:=by have hc:=(z8 row k).toNat_lt;simp only[gN];rw[mv row k 0 ai,mv row k 1 ai,mv row k 2 ai,mv row k 3 ai,mv row k 4 ai,mv row k 5 ai,mv row k 6 ai,mv row k 7 ai];simp only[Nat.reducePow,Nat.reduceSub];omega
theorem acZ(row:ab)(k:Nat):gN row (k*24) 24=65536*(z8 row (3*k)).toNat+256*(z8 row (3*k+1)).toNat+(z8 row (3*k+2)).toNat:=by have e1:=Lz row (k*24) 8 16;have e2:=Lz row (k*24+8) 8 8;rw[show k*24=8*(3*k)by omega,He]at e1;rw[show k*24+8=8*(3*k+1)by omega,show 8*(3*k+1)+8=8*(3*k+2)by omega,He,He]at e2;rw[show k*24=8*(3*k)by omega];rw[show 8*(3*k)+8=8*(3*k+1)by omega]at e1;simp only[Nat.reducePow,Nat.reduceAdd]at e1 e2;omega
theorem Lx(row:ab)(i:Nat):gN row (i*1) 1=fieldAt 1 row i:=by simp only[gN,fieldAt,sU,Nat.mul_one,Nat.add_zero];rw[show 8-1-i%8=7-i%8 by omega];simp
theorem Ly(row:ab)(i:Nat):gN row (i*4) 4=fieldAt 4 row i:=by
 have hc:=(z8 row (i*4/8)).toNat_lt;simp only[gN,fieldAt];obtain⟨k,hk⟩:∃k,k=i*4/8:=⟨_,rfl⟩
 have h:i*4%8=0\/i*4%8=4:=aa;rw[<-hk]at hc |-;rcases h with h|h
 ·rw[h,show i*4=8*k by omega,mv row k 0 ai,mv row k 1 ai,mv row k 2 ai,mv row k 3 ai];simp only[Nat.reducePow,Nat.reduceSub];omega
 rw[h,show i*4=8*k+4 by omega,show 8*k+4+0=8*k+4 by omega,show 8*k+4+1=8*k+5 by omega,show 8*k+4+2=8*k+6 by omega,show 8*k+4+3=8*k+7 by omega,mv row k 4 ai,mv row k 5 ai,mv row k 6 ai,mv row k 7 ai];simp only[Nat.reducePow,Nat.reduceSub];omega
def nY(f:Nat)(pal:List cd)(row:ab)(x:Nat):fV :=
 if f/16=3 then some [z8 row (3*x),z8 row (3*x+1),z8 row (3*x+2)]else if f/16=2 then some [z8 row x,z8 row x,z8 row x]
 else if fieldAt (bitsOf f) row x<pal.length then some (ni (me (bitsOf f) pal row x))else none
def qD(f w:Nat)(row:ab):Nat:=gN row (w*bitsOf f) (8*rowOf f w-w*bitsOf f)
theorem Q6(h:f/16=3):bitsOf f=24:=by unfold bitsOf;rw[ae aa,ae aa,ae aa]
theorem Q5(h:f/16=2):bitsOf f=8:=by unfold bitsOf;rw[ae aa,ae aa,ag h]
theorem Gr{α β:Type}{g:α->Option β}{k:α->β}:∀ {l:List α},(∀x∈l,g x=some (k x))->allM g l=some (l.map k)
 | [],_=>rfl
 | a::l,h=>by unfold allM;rw[h a ah,Gr λx hx=>h x (by simp[hx])];rfl
theorem ajk(hf:f<64){row:ab}(hl:row.length=rowOf f w):lR f pal w row=match allM (nY f pal row) (bZ w)with
  | none=>none
  | some cs=>if qD f w row=0 then some cs.flatten else none:=by
 have flat:∀k:Nat->ab,((bZ w).map k).flatten=(bZ w).flatMap k:=λk=>rfl;unfold lR;by_cases h3:f/16=3
 ·have hb:=Q6 h3;unfold rowOf at hl;rw[hb]at hl;rw[ag h3,Gr (k:=λx=>[z8 row (3*x),z8 row (3*x+1),z8 row (3*x+2)]) λx _=>by unfold nY;rw[ag h3]];simp only;rw[ag,flat]
  ·congr 1;conv=>lhs;rw[<-abK row w aa]
   simp only[gi,se]
  unfold qD rowOf;rw[hb,show 8*((w*24+7)/8)-w*24=0 by omega];rfl
 rw[ae h3];by_cases h2:f/16=2
 ·have hb:=Q5 h2;unfold rowOf at hl;rw[hb]at hl;rw[ag h2,Gr (k:=λx=>[z8 row x,z8 row x,z8 row x]) λx _=>by unfold nY;rw[ae h3,ag h2]];simp only;rw[ag,flat]
  ·congr 1;rw[LI,show row.length=w by omega];simp only[gi,se]
  unfold qD rowOf;rw[hb,show 8*((w*8+7)/8)-w*8=0 by omega];rfl
 rw[ae h2];obtain⟨hn,h32,hm⟩:=GC hf h3 h2;have hrest:qD f w row=0↔∀i,i<8*row.length/bitsOf f->w<=i->fieldAt (bitsOf f) row i=0:=by
  unfold qD;rw[xJ];have hsz:8*rowOf f w=8*row.length:=by rw[hl]
  have dz:w*bitsOf f<=8*row.length:=by rw[hl];unfold rowOf;omega
  rw[hsz];rcases hn with e|e<;>rw[e]at dz |-
  ·constructor
   ·intro h i hi hw;have:=h (i-w) aa;rw[show w*1+(i-w)=i by omega]at this;rw[<-Lx,xJ];intro j hj;rw[show i*1+j=i by omega];exact this
   intro h j hj;have:=h (w+j) aa aa;rw[<-Lx,xJ]at this;have:=this 0 ai;rw[show(w+j)*1+0=w*1+j by omega]at this;exact this
  constructor
  ·intro h i hi hw;rw[<-Ly,xJ];intro j hj;have:=h (i*4+j-w*4) aa;rw[show w*4+(i*4+j-w*4)=i*4+j by omega]at this;exact this
  intro h j hj;have:=h ((w*4+j)/4) aa aa;rw[<-Ly,xJ]at this;have:=this ((w*4+j)%4) aa;rw[show(w*4+j)/4*4+(w*4+j)%4=w*4+j by omega]at this;exact this
 by_cases hall:∀i,i<w->fieldAt (bitsOf f) row i<pal.length
 ·rw[Gr (k:=λx=>ni (me (bitsOf f) pal row x)) λx hx=>by unfold nY;rw[ae h3,ae h2,ag (hall x (oG.1 hx))]];simp only;rw[flat];by_cases hz:qD f w row=0
  ·rw[ag hz,ag ⟨hall,hrest.1 hz⟩];simp only[gi,se]
  rw[ae hz,ae λh=>hz (hrest.2 h.2)]
 rw[ae λh=>hall h.1];have:∃i,i<w/\¬fieldAt (bitsOf f) row i<pal.length:=E5 λh=>hall λi hi=>E5 λh2=>h ⟨i,hi,h2⟩;obtain⟨i,hi,yt⟩:=this;rw[Ai (oG.2 hi) (by unfold nY;rw[ae h3,ae h2,ae yt])]
theorem aj7(hy:y=sh)(h:sh<=64):(x:Int)*2^min y.toNat IntKind.i64.bits=((x*2^sh:Nat):Int):=by
 have e:min y.toNat IntKind.i64.bits=sh:=by rw[hy,Int.toNat_natCast];show min sh 64=sh;omega
 rw[e,so,Int.natCast_pow];rfl
theorem Yt{a:Nat}(h:3*a+3<=l.length):((c::l).take (3*a+4)).drop (3*a+1)=ni (fG l a):=by
 rw[u4,List.drop_succ_cons,show 3*a+4-(3*a+1)=3 by omega];have e:∀i,i<l.length->l.drop i=z8 l i::l.drop (i+1):=λi hi=>by rw[dk hi];simp[z8,bz hi]
 rw[e _ aa,e (3*a+1) aa,e (3*a+1+1) aa];rfl
theorem Ro{a b:cd}:ni a=ni b↔a=b:=by
 constructor
 ·intro h;simp only[ni,gp,and_true]at h;exact Prod.ext h.1 (Prod.ext h.2.1 h.2.2)
 intro h;rw[h]
structure aad(W V:ad)(f:Nat)(o:Option (List cd×ab))(v:aj)(w':ad):Prop where
 ex:∃(r:Sl),Rel W V [] V w'/\(match o with
  | none=>v=.tuple #[.slice none 0 0,iv (-1)]
  | some (p,_)=>v=.tuple #[r.v,iv ((jM f p).length:Nat)]/\aF V r (jM f p))
theorem ahq(hV:Sub V W){s:Sl}{b:ab}(hs:aF V s b)(hl:b.length<=1000000000){f:Nat}(hf:f<64):aB 82 [s.v,iv (f:Int)] W (aad W V f (qH f b)):=by
 have H:=aG hV;have hlen:=hs.len;have og:=hs.cap;unfold qH;obtain⟨most,yq⟩:∃m,m=nE f:=⟨_,rfl⟩
 have aep:=EG f;refine nX al Tryz.func82 rfl av 68 rfl ah [0,1,4,5,6,7,8,9,11,13,36,45,50,63] ?_;by_cases h32:f<32;rotate_left
 ·rw[ae h32];have e:jM f []=[]:=by unfold jM;rw[ae h32]
  refine aM.go al ?_;refine wk ?_;exact⟨⟨none,0,0⟩,H.sx,by rw[e];rfl,by rw[e];exact aA.nil _ _⟩
 rw[ag h32];refine aM.cA al ?_;refine wk ?_;refine aM.cA al ?_;refine wk ?_;refine aM.cA al ?_;refine wk ?_;refine aM.lq al (λ_:Unit=>[(0,s.v),(6,iv most)]) (λ_ w'=>w'=W) ?_ ?_
 ·by_cases hd:f/16=1
  ·obtain rfl:most=16:=by rw[yq];unfold nE;rw[ag hd]
   refine wk ?_;exact⟨(),sB,rfl⟩
  obtain rfl:most=2:=by rw[yq];unfold nE;rw[ae hd]
  refine wk ?_;exact⟨(),sB,rfl⟩
 rintro _ w rfl;refine aM.go al ?_;cases b with
 | nil =>rw[aK]at hlen;refine wk ?_;exact⟨⟨none,0,0⟩,H.sx,rfl⟩
 | cons c l =>
  obtain⟨p0,c0⟩:=hs.aR (g:=bv) (λ_=>rfl) (show 0<(c::l).length by simp);rw[List.getElem_cons_zero]at c0;rw[aq]at hlen hl;have DG:=c.toNat_lt;refine wk ((gd (c.toNat:Int) 1 most _).use ?_);rintro q w'⟨rfl,rfl⟩;by_cases h1:1<=c.toNat/\c.toNat<=most;rotate_left
  ·have e:jq f (c::l)=none:=by unfold jq;simp only;rw[ae (λh=>h1 ⟨h.1,by rw[yq];exact h.2.1⟩)]
   rw[e,bA aa];refine wk ?_;exact⟨⟨none,0,0⟩,H.sx,rfl⟩
  rw[bw (show(1:Int)<=(c.toNat:Int)/\(c.toNat:Int)<=(most:Int)by omega)];by_cases h3:3*c.toNat<=l.length;rotate_left
  ·have e:jq f (c::l)=none:=by unfold jq;simp only;rw[ae (λh=>h3 h.2.2.1)]
   rw[e];refine wk ?_;exact⟨⟨none,0,0⟩,H.sx,rfl⟩
  obtain⟨n,hn⟩:∃n,n=c.toNat:=⟨_,rfl⟩
  have am2:n<=16:=aa;refine wk ?_;rw[<-hn]at h1 h3 |-;refine aP (S:=Nat) al [0,1,6,7,11,13,36] (λa=>[(8,iv ((3*a+1:Nat):Int))]) (λa w'=>a<=n/\((bZ a).map (fG l)).Nodup/\Rel w V [] V w') (λa _=>n-a) 0 ?_;conv=>whnf
  refine⟨sB,⟨aa,ah,H⟩,?_⟩;clear H;rintro a w'⟨ha,gb,H⟩;dsimp only at ha gb H |-;by_cases hlt:a<n
  ·refine wk ?_;refine aP (S:=Nat) al [0,1,6,7,8,11,13,36,45] (λk=>[(9,iv ((3*k+1:Nat):Int))]) (λk w'=>k<=a/\fG l a∉(bZ k).map (fG l)/\Rel w V [] V w') (λk _=>a-k) 0 ?_;conv=>whnf
   refine⟨sB,⟨aa,ah,H⟩,?_⟩;clear H;rintro k w'⟨hk,hno,H⟩;dsimp only at hk hno H |-;by_cases qg:k<a
   ·have ta:=aA.sub hs (n:=1) (λ_=>rfl) (a:=3*a+1) (b:=3*a+4) aa (by rw[aq];omega);have tk:=aA.sub hs (n:=1) (λ_=>rfl) (a:=3*k+1) (b:=3*k+4) aa (by rw[aq];omega);rw[Yt aa]at ta tk;refine wk ?_;refine dV 15 [] [0,1,2,3,4,5,6,7,8,9,10] H ?_;intro w H;refine wk ?_;rw[show((3*a+1:Nat):Int)+3=((3*a+4:Nat):Int)by omega,show((3*k+1:Nat):Int)+3=((3*k+4:Nat):Int)by omega];refine(CR H.data ta tk).use ?_;rintro q w'⟨rfl,K⟩;replace H:=H.bd K;by_cases he:fG l a=fG l k
    ·have e:jq f (c::l)=none:=by
      unfold jq;simp only;rw[ae];rintro⟨_,_,_,h4⟩;rw[<-hn]at h4;have h5:=GR h3 (k:=a+1) aa;have h6:=(h4.sublist (List.take_sublist (a+1) _))
      rw[h5,oH,dU,zd]at h6;exact(rZ.1 h6).2.2 (fG l k) (cJ.2 ⟨k,oG.2 qg,rfl⟩) _ (cz.2 rfl) he.symm
     rw[e,bw (Ro.2 he)];refine wk ?_;exact⟨⟨none,0,0⟩,H.sx,rfl⟩
    rw[bA (λh=>he (Ro.1 h))];refine wk ?_;refine⟨sB,k+1,⟨ax (λz=>some (iv z)) aa,trivial⟩,⟨aa,?_,H⟩,aa⟩;rw[oH,dU,zd];simp only[cc,cz,not_or];exact⟨hno,he⟩
   obtain rfl:k=a:=aa;have MV:((bZ (k+1)).map (fG l)).Nodup:=by rw[oH,dU,zd,rZ];exact⟨gb,ah,λa ha b hb e=>hno (by rw[cz]at hb;rw[<-hb,<-e];exact ha)⟩
   refine wk ?_;exact⟨sB,k+1,⟨ax (λz=>some (iv z)) aa,trivial⟩,⟨aa,MV,H⟩,aa⟩
  obtain rfl:a=n:=aa;have h4:=GR h3 (k:=a) (aQ _);have h5:(mz (l.take (3*a))).length=a:=(CZ a (by rw[bg];omega)).2;rw[bJ aa]at h4;have e:jq f (c::l)=some ((bZ a).map (fG l),l.drop (3*a)):=by unfold jq;simp only;rw[<-hn,ag ⟨h1.1,by rw[<-yq];exact h1.2,h3,by rw[h4];exact gb⟩,h4]
  have eb:jM f ((bZ a).map (fG l))=(c::l).take (3*a+1):=by have:=(Wk e).1;unfold jM;rw[ag h32,this,List.take_left' (by unfold rT;rw[aq,my];simp)]
  have ebl:(jM f ((bZ a).map (fG l))).length=3*a+1:=by rw[eb,bg,aq];omega
  rw[e];refine wk ?_;have hh:=hs.head (k:=3*a+1) (by rw[aq];omega);rw[show(1:Int)+3*(a:Int)=((3*a+1:Nat):Int)by omega];refine⟨⟨bo s.a 0 s.cap 1,3*a+1,s.cap⟩,H,?_,?_⟩
  ·rw[ebl];rfl
  rw[eb];exact hh
theorem agZ(hy:y=sh)(h:sh<=64):(1:Int)*2^min y.toNat IntKind.i64.bits=((2^sh:Nat):Int):=by have:=aj7 (x:=1) hy h;rw[W9]at this;exact this
theorem Ka{z:Int}{u:UInt8}(h:z%256=(u.toNat:Int)):bO .u8 (wr .u8 z)=bv u:=ax (bO .u8) h
theorem LA(hV:Sub V W){s:Sl}{row:ab}(hs:aF V s row)(hr:row.length<=10000){a m:Nat}(hm:m<=24)(hb:a+m<=8*row.length):aB 88 [s.v,iv (a:Int),iv (m:Int)] W λv w'=>v=iv ((gN row a m:Nat):Int)/\Rel W V [] V w':=by
 have H:=aG hV;have hlen:=hs.len;refine eV Tryz.func88 34 [0,1,2,6,7,8,14] ?_;refine wk ?_;refine aP (S:=Nat) al [0,1,2,6] (λk=>[(7,iv ((gN row a k:Nat):Int)),(8,iv ((a+k:Nat):Int))]) (λk w'=>k<=m/\Rel W V [] V w') (λk _=>m-k) 0 ?_;conv=>whnf
 refine⟨sB,⟨aa,H⟩,?_⟩;clear H;rintro k w⟨hk,H⟩;dsimp only at hk H |-;have eC:=SU row a k;have aeB:2^k<=2^24:=E4 ai aa;simp only[Nat.reducePow]at aeB;by_cases hlt:k<m
 ·obtain⟨p0,c0⟩:=sP hs (i:=(a+k)/8) aa;have hb2:=Q4 row (a+k);obtain⟨P,hP⟩:∃P,P=2^(7-(a+k)%8):=⟨_,rfl⟩
  have hP1:1<=P:=by rw[hP];exact Nat.two_pow_pos _
  have hP2:P<=2^7:=by rw[hP];exact E4 ai aa
  simp only[Nat.reducePow]at hP2;obtain⟨z,hz⟩:∃z,z=(z8 row ((a+k)/8)).toNat:=⟨_,rfl⟩
  have ank:z<256:=by rw[hz];exact UInt8.toNat_lt _
  have hzc:bv (z8 row ((a+k)/8))=.int .u8 (z:Int):=by rw[hz]
  rw[hzc]at c0;obtain⟨D,hD⟩:∃D,D=z/P:=⟨_,rfl⟩
  have amL:D<=z:=by rw[hD];exact Nat.div_le_self _ _
  have hq0:(z:Int)/(P:Int)=(D:Int):=by rw[hD];rfl
  have hb3:D%2=sU row (a+k):=by rw[hD,hz,hP]
  have hu:wr .u64 (7-((a+k:Nat):Int)%8)=((7-(a+k)%8:Nat):Int):=by show(7-((a+k:Nat):Int)%8)%18446744073709551616=_;omega
  refine wk ?_;rw[hu,agZ (sh:=7-(a+k)%8) rfl aa,<-hP];refine wk ?_;rw[hq0];refine wk ?_;refine⟨sB,k+1,⟨ax (λz=>some (iv z)) (by show _=((2*gN row a k+sU row (a+k):Nat):Int);omega),ax (λz=>some (iv z)) aa,trivial⟩,⟨aa,H⟩,aa⟩
 obtain rfl:k=m:=aa;refine wk ?_;exact H
structure ZY(W V:ad)(o:fV)(v:aj)(w':ad):Prop where
 ex:∃(V':ad) (r:Sl),Sub V V'/\Rel W V [] V' w'/\(match o with
  | none=>v=.tuple #[.slice none 0 0,.bool false]
  | some x=>v=.tuple #[r.v,.bool true]/\aF V' r x)
theorem Rq(hV:Sub V W){f:Nat}(hf:f<64){p:Sl}{pal:List cd}(_:mW f pal)(hp:aF V p (jM f pal)){wd:Nat}(hw:wd<=64)(ht:Int){s:Sl}{row:ab}(hs:aF V s row)(hl:row.length=rowOf f wd){x:Nat}(hx:x<wd) :
  aB 86 [.agg (BF f wd ht p).toArray,s.v,iv (x:Int)] W (ZY W V (nY f pal row x)):=by
 have H:=aG hV;have hb:=Ak f;have hm:x*bitsOf f<=63*24:=mg aa hb.2;have hm2:wd*bitsOf f<=64*24:=mg hw hb.2;have hrl:row.length<=10000:=by rw[hl];unfold rowOf;omega
 have hfit:x*bitsOf f+bitsOf f<=8*row.length:=by rw[hl];unfold rowOf;have:(x+1)*bitsOf f<=wd*bitsOf f:=Nat.mul_le_mul_right _ hx;rw[Nat.add_mul,W9]at this;omega
 have MS:(x:Int)*((bitsOf f:Nat):Int)=((x*bitsOf f:Nat):Int):=(so _ _).symm;have hpl:=hp.len;have M6:=hp.cap;refine eV Tryz.func86 57 [0,1,2,3,6,7,8,9,20,33,47] ?_;refine H.wn ?_;intro w b3 H;refine wk (H.us (I0 H.data hf) ?_);intro w H;refine wk ?_;rw[MS];refine H.us (LA H.data hs hrl hb.2 hfit) ?_;intro w H;unfold nY;by_cases h3:f/16=3
 ·have e:=Q6 h3;rw[e,acZ,ag h3];have z0:=(z8 row (3*x)).toNat_lt;have z1:=(z8 row (3*x+1)).toNat_lt;have z2:=(z8 row (3*x+2)).toNat_lt;refine H.wn ?_;intro w Aj H;replace H:=H.cB (c':=[z8 row (3*x),z8 row (3*x+1),z8 row (3*x+2)].flatMap aI) (by simp only[bD,eL,aI,bb,aL,aZ];rw[Ka (u:=z8 row (3*x)) aa,Ka (u:=z8 row (3*x+1)) aa,Ka (u:=z8 row (3*x+2)) aa])
  obtain⟨V2,hV2,H,Mq⟩:=H.cU;refine wk ?_;exact⟨V2,⟨some ⟨Aj,0,none⟩,3,3⟩,hV2,H.sx,rfl,⟨rfl,aQ _,Mq.cells⟩⟩
 rw[ae h3];by_cases h2:f/16=2
 ·have e:=Q5 h2;rw[e,show x*8=8*x by omega,He,ag h2];have z0:=(z8 row x).toNat_lt;refine H.wn ?_;intro w Aj H;replace H:=H.cB (c':=[z8 row x,z8 row x,z8 row x].flatMap aI) (by simp only[bD,eL,aI,bb,aL,aZ];rw[Ka (u:=z8 row x) aa])
  obtain⟨V2,hV2,H,Mq⟩:=H.cU;refine wk ?_;exact⟨V2,⟨some ⟨Aj,0,none⟩,3,3⟩,hV2,H.sx,rfl,⟨rfl,aQ _,Mq.cells⟩⟩
 rw[ae h2];obtain⟨hn,h32,hmm⟩:=GC hf h3 h2;have hfe:gN row (x*bitsOf f) (bitsOf f)=fieldAt (bitsOf f) row x:=by
  rcases hn with e|e<;>rw[e]
  ·exact Lx row x
  exact Ly row x
 rw[hfe];have hfl:=Lw (bitsOf f) row x;have aef:fieldAt (bitsOf f) row x<16:=by rcases hn with e|e<;>rw[e]at hfl |-<;>omega
 have amS:bitsOf f≠24/\bitsOf f≠8:=by rcases hn with e|e<;>rw[e]<;>decide
 obtain⟨n,A7⟩:∃n,n=fieldAt (bitsOf f) row x:=⟨_,rfl⟩
 have UM:(jM f pal).length=3*pal.length+1:=by unfold jM rT;rw[ag h32,aq,my]
 rw[UM]at hpl;unfold me;rw[<-A7]at aef |-;by_cases hlt:n<pal.length;rotate_left
 ·rw[ae hlt];refine wk ?_;exact⟨V,⟨none,0,0⟩,aS _,H.sx,rfl⟩
 rw[ag hlt];have ta:=aA.sub hp (n:=1) (λ_=>rfl) (a:=3*n+1) (b:=3*n+4) aa aa;have rh:((jM f pal).take (3*n+4)).drop (3*n+1)=ni (Ar pal n):=by unfold jM rT;rw[ag h32,Yt (by rw[my];omega),Qw pal n hlt];simp[Ar,hlt]
 rw[rh]at ta;refine wk ?_;refine⟨V,_,aS _,H.sx,?_,ta⟩;have e1:((1:Int)+3*(n:Int)).toNat=3*n+1:=aa;have e2:((4:Int)+3*(n:Int)).toNat=3*n+4:=aa;rw[e1,e2]
theorem ajp(f:Nat)(pal:List cd)(w h:Nat)(b:ab):sF f pal w h b=(allM (lR f pal w) (turn f (fi (rowOf f w) h b))).map List.flatten:=by
 unfold sF;cases hr:allM (lR f pal w) (fi (rowOf f w) h b)with
 | some R=>rw[QJ f hr];rfl
 | none =>
  cases ht:allM (lR f pal w) (turn f (fi (rowOf f w) h b))with
  | none=>rfl
  | some R =>have:=QJ f ht;rw[YX,hr]at this;cases this
theorem aln{h:Nat}{d:ab}{y:Nat}(hy:y<h)(_:d.length=h*rowOf f w):∃a,a<h/\(a:Int)=(if f%2=1 then(h:Int)-1-y else y)/\(turn f (fi (rowOf f w) h d))[y]?=some ((d.drop (a*rowOf f w)).take (rowOf f w)):=by
 unfold turn;split
 ·refine⟨h-1-y,aa,aa,?_⟩;rw[List.getElem?_reverse (by rw[qE];exact hy),qE,JF aa]
 exact⟨y,hy,rfl,JF hy⟩
theorem ajo{size:Nat}{B:ab}(h2:f/2%2=1):(lI size [] B=none->mS f size B=none)/\∀d,lI size [] B=some d->(gn d≠B->mS f size B=none)/\(gn d=B->mS f size B=if d.length=size then some d else none):=by
 unfold mS;rw[ag h2];have key:∀o,mo B size=some o->o.length=size/\gn o=B/\lI size [] B=some o:=λo ho=>by obtain⟨a1,a2⟩:=Kk.1 ho;refine⟨a1,a2,?_⟩;have:=Le size (o.length+1) [] o aa (by simp;omega);rwa [a2,aL]at this
 refine⟨λh=>?_,λd h=>⟨λhp=>?_,λhp=>?_⟩⟩
 ·cases hu:mo B size with
  | none=>rfl
  | some o=>have:=(key o hu).2.2;rw[h]at this;cases this
 ·cases hu:mo B size with
  | none=>rfl
  | some o =>obtain⟨_,k2,k3⟩:=key o hu;rw[h]at k3;cases k3;exact absurd k2 hp
 split
 ·rename_i hl;exact Kk.2 ⟨hl,hp⟩
 rename_i hl;cases hu:mo B size with
 | none=>rfl
 | some o =>obtain⟨k1,_,k3⟩:=key o hu;rw[h]at k3;cases k3;exact absurd k1 hl
theorem Sf(m:Nat):∀(n:Nat) {acc l o:ab},l.length<=n->lI m acc l=some o->o.length<=m\/o=acc
 | 0,acc,l,o,hl,h=>by have:l=[]:=dt aa;subst this;rw[G1]at h;exact .inr (dT h).symm
 | n+1,acc,[],o,hl,h=>by rw[G1]at h;exact .inr (dT h).symm
 | n+1,acc,c::r,o,hl,h=>by
  have hr:r.length<=n:=by simpa using hl
  rw[G0]at h;have key:∀(a k:ab),k.length<=n->¬m<a.length->lI m a k=some o->o.length<=m\/o=acc:=by
   intro a k hk ha hd;rcases Sf m n hk hd with h|h
   ·exact .inl h
   left;rw[h];omega
  split at h
  ·split at h
   ·cases h
   split at h
   ·cases h
   rename_i h3;exact key _ _ (by rw[aU];omega) h3 h
  split at h
  ·cases h
  split at h
  ·cases h
  rename_i h3;exact key _ _ (by rw[aU];omega) h3 h
theorem KX{c:ab}(h:nY f pal row x=some c):c.length=3:=by
 unfold nY at h;split at h
 ·cases h;rfl
 split at h
 ·cases h;rfl
 split at h
 ·cases h;rfl
 cases h
theorem Rr{cs:bf}(h:allM (nY f pal row) (bZ x)=some cs):cs.flatten.length=3*x:=by
 obtain⟨h1,h2⟩:=vq h;rw[List.length_range]at h1;have:=AK (s:=3) (R:=cs) λr hr=>by obtain⟨i,hi,rfl⟩:=Ji.1 hr;exact KX (h2 i i _ (by rw[List.getElem?_range aa]) (bz hi))
 rw[this.1,h1,lP]
theorem ajq(hf:f<64)(hp:mW f pal){L R:bf}(hL:∀r∈L,r.length=rowOf f w)(hR:allM (lR f pal w) L=some R):R.length=L.length/\R.flatten.length=L.length*(3*w):=by obtain⟨h1,h2⟩:=vq hR;refine⟨h1,?_⟩;rw[(AK (s:=3*w) (R:=R) λr hr=>?_).1,h1];obtain⟨i,hi,rfl⟩:=Ji.1 hr;have hy:L[i]?=some (L[i]'aa):=bz _;exact(Qv hf hp (hL _ (jX hy)) (h2 i _ _ hy (bz hi))).1
theorem Dd{k:Nat}(h:k<l.length):l.drop k=z8 l k::l.drop (k+1):=by rw[dk h];simp[z8,h]
theorem ahu(hV:Sub V W){s:Sl}{l:ab}(hs:aF V s l)(hl:l.length<=1000):aB 26 [s.v] W (Ae W V (fh l)):=by
 have H:=aG hV;have hlen:=hs.len;have og:=hs.cap;have hno:nF l=none->fh l=none:=λh=>by unfold fh;rw[h]
 refine nX al Tryz.func26 rfl av 241 rfl ah [0,2,3,4,5,6,7,8,9,10,11,12,13,14,15,16,17,18,19,20,21,55,108,122,140,157,162,169,187,198,216,227,231] ?_;refine aM.cA al ?_;refine H.wn ?_;intro w b2 H;refine wk ?_;refine aM.cA al ?_;refine H.wn ?_;intro w b5 H;refine H.wg ?_;intro w H;refine aM.cA al ?_;by_cases h7:l.length<7
 ·rw[hno (Ww (by rw[aU];omega))];refine H.wg ?_;intro w H;exact⟨V,aV,⟨none,0,0⟩,zeroV,[],aS _,H.sx,cG _,aA.nil _ _,rfl⟩
 have hsub:=hs.sub (n:=1) (λ_=>rfl) (a:=0) (b:=4) aa aa;rw[lj]at hsub;have hc4:=(hsub.up H.data).cells;rw[iu]at hc4;have hl4:4-0=(l.take 4).length:=by simp;omega
 have DK:l.drop 4=z8 l 4::z8 l 5::z8 l 6::l.drop 7:=by rw[Dd (show 4<l.length by omega),Dd (show 5<l.length by omega),Dd (show 6<l.length by omega)]
 obtain⟨p4,c4⟩:=sP hs (i:=4) aa;obtain⟨p5,c5⟩:=sP hs (i:=5) aa;obtain⟨p6,c6⟩:=sP hs (i:=6) aa;have ht:=hs.rest (k:=7) aa;obtain⟨T,hT⟩:∃T,T=l.drop 7:=⟨_,rfl⟩
 have uw:T.length=l.length-7:=by rw[hT,aU]
 rw[<-hT]at DK ht;obtain⟨x0,fJ⟩:∃x0,x0=z8 l 4:=⟨_,rfl⟩
 obtain⟨x1,dO⟩:∃x0,x0=z8 l 5:=⟨_,rfl⟩
 obtain⟨x2,pt⟩:∃x0,x0=z8 l 6:=⟨_,rfl⟩
 rw[<-fJ]at c4 DK;rw[<-dO]at c5 DK;rw[<-pt]at c6 DK;have z0:=x0.toNat_lt;have z1:=x1.toNat_lt;have z2:=x2.toNat_lt;refine wk ?_;refine qX (λhp=>?_) (λhp=>?_)
 ·rw[hno (Wv hp)];refine H.wg ?_;intro w H;exact⟨V,aV,⟨none,0,0⟩,zeroV,[],aS _,H.sx,cG _,aA.nil _ _,rfl⟩
 have Ui:=Wu hp DK;refine wk ((ac6 x0.toNat _ z0).use ?_);rintro v w'⟨rfl,rfl⟩;by_cases hk:p9 x0.toNat/\nK x1.toNat/\nK x2.toNat;rotate_left
 ·have e:fh l=none:=hno (by rw[Ui];unfold BG;rw[ae hk]);rw[e];unfold p9 nK at hk;by_cases j9:x0.toNat<64/\x0.toNat%16<4;rotate_left
  ·rw[bA j9];refine H.wg ?_;intro w H;exact⟨V,aV,⟨none,0,0⟩,zeroV,[],aS _,H.sx,cG _,aA.nil _ _,rfl⟩
  rw[bw j9];refine wk ((gd _ _ _ _).use ?_);rintro v w'⟨rfl,rfl⟩;by_cases q1:1<=x1.toNat/\x1.toNat<=64;rotate_left
  ·rw[bA aa];refine H.wg ?_;intro w H;exact⟨V,aV,⟨none,0,0⟩,zeroV,[],aS _,H.sx,cG _,aA.nil _ _,rfl⟩
  rw[bw aa];refine wk ((gd _ _ _ _).use ?_);rintro v w'⟨rfl,rfl⟩;rw[bA aa];refine H.wg ?_;intro w H;exact⟨V,aV,⟨none,0,0⟩,zeroV,[],aS _,H.sx,cG _,aA.nil _ _,rfl⟩
 have k7:nF l=match qH x0.toNat T with
   | none=>none
   | some (pal,l2)=>BE x0.toNat pal x1.toNat x2.toNat l2:=by rw[Ui];unfold BG;rw[ag hk];rfl
 obtain⟨j9,⟨w1,w2⟩,h1,h2⟩:=hk;unfold p9 at j9;rw[bw j9];refine wk ((gd _ _ _ _).use ?_);rintro v w'⟨rfl,rfl⟩;rw[bw aa];refine wk ((gd _ _ _ _).use ?_);rintro v w'⟨rfl,rfl⟩;rw[bw aa];refine wk ?_;refine aM.cA al ?_;refine dV 4 [13] [0,1,2,3,4,5,6,7,8,9,10,11,12,13,14] H ?_;intro w H;refine H.wn ?_;intro w b6 H;refine H.wg ?_;intro w H;refine aM.cA al ?_;refine dV 5 [] [0,1,2,3,4,5,6,7,8,9] H ?_;intro w H;refine wk ?_;refine(ahq H.data ht aa j9.1).use ?_;rintro q w⟨r,K,hpk⟩;replace H:=H.bd K;cases hst:qH x0.toNat T with
 | none =>rw[hst]at hpk k7;obtain rfl:=hpk;rw[hno k7];refine wk ?_;refine aM.cA al ?_;refine dV 6 [] [0,1,2,3,4,5,6,7,8,9,10,11,12,13,14,15,16,17,18,19,20,21,22,23,24,25,26,27,28,29,30] H ?_;intro w H;refine H.wg ?_;intro w H;exact⟨V,aV,⟨none,0,0⟩,zeroV,[],aS _,H.sx,cG _,aA.nil _ _,rfl⟩
 | some y =>
 obtain⟨pal,T2⟩:=y;rw[hst]at hpk k7;obtain⟨rfl,l8⟩:=hpk;dsimp only at k7;obtain⟨TI,hpo⟩:=JT hst;obtain⟨N,hN⟩:∃N,N=(jM x0.toNat pal).length:=⟨_,rfl⟩
 have hNl:=PF hpo;have amP:T2.length+N+7=l.length:=by have:=ax bU TI;rw[ak]at this;omega
 have xS:T2=l.drop (7+N):=by rw[<-gK,<-hT,TI,hN,List.drop_left]
 rw[<-hN]at hNl |-;refine wk ?_;refine aM.cA al ?_;refine dV 6 [] [0,1,2,3,4,5,6,7,8,9,10,11,12,13,14,15,16,17,18,19,20,21,22,23,24,25,26,27,28,29,30] H ?_;intro w H;by_cases h9:T2.length<2
 ·have e:BE x0.toNat pal x1.toNat x2.toNat T2=none:=by
   match T2,h9 with
   | [],_=>rfl
   | [_],_=>rfl
   | a::b::c,h=>exact absurd h (by simp only[aq];omega)
  rw[hno (by rw[k7,e])];refine H.wg ?_;intro w H;exact⟨V,aV,⟨none,0,0⟩,zeroV,[],aS _,H.sx,cG _,aA.nil _ _,rfl⟩
 have HG:T2=z8 l (7+N)::z8 l (8+N)::l.drop (9+N):=by rw[xS,Dd (show 7+N<l.length by omega),show 7+N+1=8+N by omega,Dd (show 8+N<l.length by omega),show 8+N+1=9+N by omega]
 obtain⟨p7,c7⟩:=sP hs (i:=7+N) aa;obtain⟨p8,c8⟩:=sP hs (i:=8+N) aa;have hB0:=hs.rest (k:=9+N) aa;obtain⟨B,hB⟩:∃B,B=l.drop (9+N):=⟨_,rfl⟩
 have L9:B.length+N+9=l.length:=by rw[hB,aU];omega
 rw[<-hB]at HG hB0;obtain⟨x7,hx7⟩:∃x0,x0=z8 l (7+N):=⟨_,rfl⟩
 obtain⟨x8,rJ⟩:∃x0,x0=z8 l (8+N):=⟨_,rfl⟩
 rw[<-hx7]at c7 HG;rw[<-rJ]at c8 HG;have z7:=x7.toNat_lt;have z8':=x8.toNat_lt;rw[HG]at k7;rw[show BE x0.toNat pal x1.toNat x2.toNat (x7::x8::B)=if 256*x7.toNat+x8.toNat=B.length then(match oE x0.toNat pal x1.toNat x2.toNat B with|none=>none|some px=>some ⟨x1.toNat,x2.toNat,x0.toNat,pal,px⟩)else none from rfl]at k7;by_cases Uq:256*x7.toNat+x8.toNat=B.length;rotate_left
 ·rw[ae Uq]at k7;rw[hno k7];refine H.wg ?_;intro w H;exact⟨V,aV,⟨none,0,0⟩,zeroV,[],aS _,H.sx,cG _,aA.nil _ _,rfl⟩
 rw[ag Uq]at k7;refine wk ?_;refine aM.cA al ?_;refine H.wg ?_;intro w H;refine aM.cA al ?_;refine wk ?_;refine aM.cA al ?_;refine wk ((ajl H.data j9.1 (wd:=x1.toNat) w2 _ _).use ?_);rintro q w⟨rfl,K⟩;replace H:=H.bd K;refine wk ?_;obtain⟨f,hf⟩:∃f,f=x0.toNat:=⟨_,rfl⟩
 obtain⟨wd,Bf⟩:∃f,f=x1.toNat:=⟨_,rfl⟩
 obtain⟨ht',MH⟩:∃f,f=x2.toNat:=⟨_,rfl⟩
 have hbl:=Ak f;have Nt:wd*bitsOf f<=64*24:=mg aa hbl.2;obtain⟨S,hS⟩:∃S,S=rowOf f wd:=⟨_,rfl⟩
 have hS2:S<=192/\wd*bitsOf f<=8*S/\8*S<=wd*bitsOf f+7:=by rw[hS];unfold rowOf;omega
 have hSh:S*ht'<=192*64:=mg hS2.1 aa;have A8:oE f pal wd ht' B=none->fh l=none:=λh=>hno (by rw[k7,<-hf,<-Bf,<-MH,h]);rw[<-hf,<-Bf]at H k7 |-;rw[<-MH]at H k7;rw[<-hf]at hpo l8 j9;rw[<-Bf]at w1 w2;rw[<-MH]at h1 h2;rw[<-hS]
 refine aM.lq al (λq:Sl=>[(0,s.v),(2,.pointer (some ⟨b2,0,none⟩)),(5,.pointer (some ⟨b5,0,none⟩)),(6,.pointer (some ⟨b6,0,none⟩)),(9,q.v),(10,iv (S:Int))])
  (λq w'=>∃V2 d,Sub V V2/\Rel W V [.ay b6 (BF f wd ht' r) 87,.ay b5 (a8 aV) 27,.ay b2 (a8 aV) 27] V2 w'/\aF V2 q d/\mS f (S*ht') B=(if d.length=S*ht' then some d else none)/\d.length<=100000) ?_ ?_
 ·by_cases To:f/2%2=1;rotate_left
  ·refine wk ?_;exact⟨_,sB,V,B,aS _,H.sx,hB0,by unfold mS;rw[ae To],aa⟩
  obtain⟨rb1,rb2⟩:=ajo (size:=S*ht') (B:=B) To;have hnb:mS f (S*ht') B=none->fh l=none:=λh=>A8 (by unfold oE;rw[<-hS,h]);refine wk ?_;rw[show(S:Int)*(ht':Int)=((S*ht':Nat):Int)from(so _ _).symm];refine(alM H.data hB0 aa (most:=S*ht') aa).use ?_;rintro q w⟨V2,ru,hV2,K,hu⟩;replace H:=H.bd K;cases hd:lI (S*ht') [] B with
  | none =>rw[hd]at hu;obtain rfl:=hu;rw[hnb (rb1 hd)];refine H.wg ?_;intro w H;exact⟨V2,aV,⟨none,0,0⟩,zeroV,[],hV2,H.sx,cG _,aA.nil _ _,rfl⟩
  | some d =>
   rw[hd]at hu;obtain⟨rfl,cZ⟩:=hu;have hdl:d.length<=S*ht':=by
    rcases Sf _ _ (aQ _) hd with h|h
    ·exact h
    rw[h];exact cE _
   obtain⟨rb3,rb4⟩:=rb2 d hd;refine wk ?_;refine(ahg H.data cZ aa).use ?_;rintro q w⟨rp,rfl,K⟩;replace H:=H.cq K;obtain⟨V3,aw,H,aeI⟩:=Rel.aJ H;refine wk ((CR H.data aeI ((hB0.up hV2).up aw)).use ?_);rintro q w⟨rfl,K⟩;replace H:=H.bd K;by_cases hpk:gn d=B;rotate_left
   ·rw[bA hpk,hnb (rb3 hpk)];refine H.wg ?_;intro w H;exact⟨V3,aV,⟨none,0,0⟩,zeroV,[],hV2.trans aw,H.sx,cG _,aA.nil _ _,rfl⟩
   rw[bw hpk];refine wk ?_;exact⟨_,sB,V3,d,hV2.trans aw,H.sx,cZ.up aw,rb4 hpk,aa⟩
 clear H;rintro q w⟨V2,d,hV2,H,hq,iX,hdl⟩;dsimp only;have cD:=hq.len;have Bd:=hq.cap;refine aM.cA al ?_;by_cases HI:d.length=S*ht';rotate_left
 ·rw[ae HI]at iX;rw[A8 (by unfold oE;rw[<-hS,iX])];refine H.wg ?_;intro w H;exact⟨V2,aV,⟨none,0,0⟩,zeroV,[],hV2,H.sx,cG _,aA.nil _ _,rfl⟩
 rw[ag HI]at iX;have iO:oE f pal wd ht' B=sF f pal wd ht' d:=by unfold oE;rw[<-hS,iX]
 have hwh:=mg w2 h2;have ang:cY ((wd:Int)*(ht':Int)):=by rw[<-so];constructor<;>omega
 by_cases dz:1333<wd*ht'
 ·have e:fh l=none:=by
   cases k8:oE f pal wd ht' B with
   | none=>exact A8 k8
   | some px =>rw[k8]at k7;obtain⟨B',d',R',P⟩:=IY k7;have:=P.EY.1;dsimp only at this;unfold fh;rw[k7];simp only;rw[ag (amm (by rw[this,show ht'*(3*wd)=3*(wd*ht')by rw[lP wd,Nat.mul_left_comm]];omega))]
  rw[e];refine H.wg ?_;intro w H;exact⟨V2,aV,⟨none,0,0⟩,zeroV,[],hV2,H.sx,cG _,aA.nil _ _,rfl⟩
 refine wk ?_;refine aM.cA al ?_;refine wk ?_;replace H:=H.br 5 1;obtain⟨L,hL⟩:∃L,L=turn f (fi (rowOf f wd) ht' d):=⟨_,rfl⟩
 have TX:d.length=ht'*rowOf f wd:=by rw[HI,hS,lP]
 have Dr:L.length=ht':=by rw[hL,YW,qE]
 have TA:∀r∈L,r.length=rowOf f wd:=λr hr=>by rw[hL]at hr;exact JG TX (VE.1 hr)
 have k8:sF f pal wd ht' d=(allM (lR f pal wd) L).map List.flatten:=by rw[hL];exact ajp _ _ _ _ _
 have H8:∀r∈L,lR f pal wd r=none->fh l=none:=λr hr h=>A8 (by rw[iO,k8,Ai hr h];rfl);refine aM.go al ?_;refine wk ?_;refine aP (S:=Nat×Sl) al [0,2,5,6,7,8,9,10,11,12,21,55,108,122,140,157,227,231] (λk=>[(13,k.2.v),(14,iv k.1)]) (λk w'=>∃V3 R,k.1<=ht'/\Sub V2 V3/\allM (lR f pal wd) (L.take k.1)=some R/\Rel W V [.row k.2 5 1 (R.flatten.flatMap aI),.ay b6 (BF f wd ht' r) 87,.ay b5 (a8 aV) 27,.ay b2 (a8 aV) 27] V3 w') (λk _=>ht'-k.1) (0,⟨none,0,0⟩) ?_;conv=>whnf
 refine⟨sB,⟨V2,[],aa,aS _,rfl,H⟩,?_⟩;clear H;rintro⟨y,rx⟩w⟨V3,R,hy,aw,hR,H⟩;dsimp only at hy hR H |-;have adG:=ajq j9.1 hpo (λr hr=>TA r (nG hr)) hR;rw[bg,Dr,Nat.min_eq_left hy]at adG;have hyw:y*(3*wd)<=64*192:=mg aa aa;by_cases hlt:y<ht'
 ·obtain⟨a,ha,vM,fL⟩:=aln (f:=f) hlt TX;rw[<-hL,<-hS]at fL;have haS:a*S+S<=d.length:=by rw[HI];have:=Nat.mul_le_mul_left S ha;rw[Nat.mul_succ,lP S a]at this;exact this
  have l7:(a:Int)*(S:Int)=((a*S:Nat):Int):=(so _ _).symm;have hm2:((a:Int)+1)*(S:Int)=((a*S+S:Nat):Int):=by rw[Int.add_mul,l7];omega
  have hrow:=aA.sub (hq.up aw) (n:=1) (λ_=>rfl) (a:=a*S) (b:=a*S+S) aa haS;obtain⟨row,Ee⟩:∃row,row=(d.drop (a*S)).take S:=⟨_,rfl⟩
  have aeH:(d.take (a*S+S)).drop (a*S)=row:=by rw[Ee,u4,show a*S+S-a*S=S by omega]
  rw[aeH]at hrow;rw[<-Ee]at fL;have Mc:y<L.length:=aa;have Ed:row∈L:=jX fL;have Nh:row.length=rowOf f wd:=TA row Ed;have UG:L[y]=row:=by rw[bz Mc]at fL;exact dT fL
  have mL:=ajk (f:=f) (w:=wd) (pal:=pal) j9.1 Nh;by_cases yI:f%2=1
  ·rw[ag yI]at vM;refine wk ?_;rw[<-vM,l7];refine wk ?_;rw[hm2];refine wk ?_;refine aP (S:=Nat×Sl) al [0,2,5,6,7,8,9,10,11,12,14,15,16,20,21,55,108,122,140,157,162,169,216,227,231] (λk=>[(13,k.2.v),(17,iv k.1)]) (λk w'=>∃V4 cs,k.1<=wd/\Sub V3 V4/\allM (nY f pal row) (bZ k.1)=some cs/\Rel W V [.row k.2 5 1 ((R.flatten++cs.flatten).flatMap aI),.ay b6 (BF f wd ht' r) 87,.ay b5 (a8 aV) 27,.ay b2 (a8 aV) 27] V4 w') (λk _=>wd-k.1) (0,rx) ?_;conv=>whnf
   refine⟨sB,⟨V3,[],aa,aS _,rfl,by rw[BS,aZ];exact H⟩,?_⟩;clear H;rintro⟨x,rx⟩w⟨V4,cs,hx,ar,hcs,H⟩;dsimp only at hx hcs H |-;have hcl:=Rr hcs;have fR:=(hV2.trans aw).trans ar;by_cases hxl:x<wd
   ·refine wk ((Rq H.data j9.1 hpo (((l8.up hV2).up aw).up ar) w2 _ (hrow.up ar) Nh hxl).use ?_);rintro q w⟨V5,rc,aN,K,rh⟩;replace H:=H.bd K;cases hc:nY f pal row x with
    | none =>rw[hc]at rh;obtain rfl:=rh;rw[Ai (oG.2 hxl) hc]at mL;rw[H8 row Ed mL];refine H.wg ?_;intro w H;exact⟨V5,aV,⟨none,0,0⟩,zeroV,[],fR.trans aN,H.sx,cG _,aA.nil _ _,rfl⟩
    | some c =>rw[hc]at rh;obtain⟨rfl,cP⟩:=rh;have hc3:=KX hc;refine wk ?_;refine Rel.jO H (i:=0) rfl cP (by rw[ak];omega) ?_;intro rn w H;refine wk ?_;refine⟨sB,(x+1,rn),sB,⟨V5,cs++[c],by dsimp only;omega,ar.trans aN,by dsimp only;rw[oH];exact CJ hcs hc,?_⟩,by dsimp only;omega⟩;rw[BR,Jj,<-bj];exact H.sx
   obtain rfl:x=wd:=aa;rw[hcs]at mL;dsimp only at mL;have hrest:qD f x row=gN row (x*bitsOf f) (8*S-x*bitsOf f):=by unfold qD;rw[<-hS]
   have oq:(x:Int)*((bitsOf f:Nat):Int)=((x*bitsOf f:Nat):Int):=(so _ _).symm;refine wk ?_;refine dV 33 [4] [0,1,2,3,4,5,6] H ?_;intro w H;refine wk ((I0 H.data j9.1).use ?_);rintro q w⟨rfl,K⟩;replace H:=H.bd K;refine wk ?_;rw[oq];refine wk ?_;rw[show 8*(S:Int)-((x*bitsOf f:Nat):Int)=((8*S-x*bitsOf f:Nat):Int)by omega];refine(LA H.data (hrow.up ar) aa aa aa).use ?_;rintro q w⟨rfl,K⟩;replace H:=H.bd K;rw[<-hrest];by_cases hz:qD f x row=0;rotate_left
   ·rw[hrest]at hz;rw[ae (by rw[hrest];exact hz)]at mL;rw[H8 row Ed mL,hrest];refine H.wg ?_;intro w H;exact⟨V4,aV,⟨none,0,0⟩,zeroV,[],fR,H.sx,cG _,aA.nil _ _,rfl⟩
   rw[ag hz]at mL;rw[hz];refine wk ?_;refine⟨sB,(y+1,rx),⟨rfl,ax (λz=>some (iv z)) (by dsimp only;omega),trivial⟩,⟨V4,R++[cs.flatten],by dsimp only;omega,aw.trans ar,?_,?_⟩,by dsimp only;omega⟩
   ·dsimp only;rw[bK Mc,UG];exact CJ hR mL
   rw[BR,Jj];exact H.sx
  rw[ae yI]at vM;refine wk ?_;rw[<-vM,l7];refine wk ?_;rw[hm2];refine wk ?_;refine aP (S:=Nat×Sl) al [0,2,5,6,7,8,9,10,11,12,14,15,16,20,21,55,108,122,140,157,162,169,216,227,231] (λk=>[(13,k.2.v),(17,iv k.1)]) (λk w'=>∃V4 cs,k.1<=wd/\Sub V3 V4/\allM (nY f pal row) (bZ k.1)=some cs/\Rel W V [.row k.2 5 1 ((R.flatten++cs.flatten).flatMap aI),.ay b6 (BF f wd ht' r) 87,.ay b5 (a8 aV) 27,.ay b2 (a8 aV) 27] V4 w') (λk _=>wd-k.1) (0,rx) ?_;conv=>whnf
  refine⟨sB,⟨V3,[],aa,aS _,rfl,by rw[BS,aZ];exact H⟩,?_⟩;clear H;rintro⟨x,rx⟩w⟨V4,cs,hx,ar,hcs,H⟩;dsimp only at hx hcs H |-;have hcl:=Rr hcs;have fR:=(hV2.trans aw).trans ar;by_cases hxl:x<wd
  ·refine wk ((Rq H.data j9.1 hpo (((l8.up hV2).up aw).up ar) w2 _ (hrow.up ar) Nh hxl).use ?_);rintro q w⟨V5,rc,aN,K,rh⟩;replace H:=H.bd K;cases hc:nY f pal row x with
   | none =>rw[hc]at rh;obtain rfl:=rh;rw[Ai (oG.2 hxl) hc]at mL;rw[H8 row Ed mL];refine H.wg ?_;intro w H;exact⟨V5,aV,⟨none,0,0⟩,zeroV,[],fR.trans aN,H.sx,cG _,aA.nil _ _,rfl⟩
   | some c =>rw[hc]at rh;obtain⟨rfl,cP⟩:=rh;have hc3:=KX hc;refine wk ?_;refine Rel.jO H (i:=0) rfl cP (by rw[ak];omega) ?_;intro rn w H;refine wk ?_;refine⟨sB,(x+1,rn),sB,⟨V5,cs++[c],by dsimp only;omega,ar.trans aN,by dsimp only;rw[oH];exact CJ hcs hc,?_⟩,by dsimp only;omega⟩;rw[BR,Jj,<-bj];exact H.sx
  obtain rfl:x=wd:=aa;rw[hcs]at mL;dsimp only at mL;have hrest:qD f x row=gN row (x*bitsOf f) (8*S-x*bitsOf f):=by unfold qD;rw[<-hS]
  have oq:(x:Int)*((bitsOf f:Nat):Int)=((x*bitsOf f:Nat):Int):=(so _ _).symm;refine wk ?_;refine dV 33 [4] [0,1,2,3,4,5,6] H ?_;intro w H;refine wk ((I0 H.data j9.1).use ?_);rintro q w⟨rfl,K⟩;replace H:=H.bd K;refine wk ?_;rw[oq];refine wk ?_;rw[show 8*(S:Int)-((x*bitsOf f:Nat):Int)=((8*S-x*bitsOf f:Nat):Int)by omega];refine(LA H.data (hrow.up ar) aa aa aa).use ?_;rintro q w⟨rfl,K⟩;replace H:=H.bd K;rw[<-hrest];by_cases hz:qD f x row=0;rotate_left
  ·rw[hrest]at hz;rw[ae (by rw[hrest];exact hz)]at mL;rw[H8 row Ed mL,hrest];refine H.wg ?_;intro w H;exact⟨V4,aV,⟨none,0,0⟩,zeroV,[],fR,H.sx,cG _,aA.nil _ _,rfl⟩
  rw[ag hz]at mL;rw[hz];refine wk ?_;refine⟨sB,(y+1,rx),⟨rfl,ax (λz=>some (iv z)) (by dsimp only;omega),trivial⟩,⟨V4,R++[cs.flatten],by dsimp only;omega,aw.trans ar,?_,?_⟩,by dsimp only;omega⟩
  ·dsimp only;rw[bK Mc,UG];exact CJ hR mL
  rw[BR,Jj];exact H.sx
 obtain rfl:y=ht':=aa;rw[bJ aa]at hR;have aeE:oE f pal wd y B=some R.flatten:=by rw[iO,k8,hR];rfl
 rw[aeE]at k7;have am7:R.flatten.length<=12288:=aa;obtain⟨V4,ar,H,hrx⟩:=Rel.aJ H;refine wk ((ahC H.data (wd:Int) (y:Int) hrx).use ?_);rintro q w⟨V5,h,aN,K,rfl,hv⟩;replace H:=H.bd K;have hB:VB 1048576 (kp (wd:Int) (y:Int) R.flatten):=Qj (by constructor<;>omega) (by constructor<;>omega) aa;refine H.wn ?_;intro w b21 H;refine H.wg ?_;intro w H;refine(w9 H.data hv hB).use ?_;rintro q w⟨rfl,K⟩;replace H:=H.bd K;have fR:=((hV2.trans aw).trans ar).trans aN;by_cases hvf:(ct (kp (wd:Int) (y:Int) R.flatten)).1=0;rotate_left
 ·have e:fh l=none:=by unfold fh;rw[k7];simp only;rw[ag hvf]
  rw[e];refine H.wg ?_;intro w H;exact⟨V5,aV,⟨none,0,0⟩,zeroV,[],fR,H.sx,cG _,aA.nil _ _,rfl⟩
 have e:fh l=some (kp (wd:Int) (y:Int) R.flatten,mN f pal):=by unfold fh;rw[k7];simp only;rw[ae (λq=>q hvf)]
 rw[e];refine wk ?_;by_cases h48:f=48
 ·have er:mN f pal=[]:=by unfold mN;rw[ag h48]
  rw[er];refine H.wg ?_;intro w H;exact⟨V5,h,⟨none,0,0⟩,_,[],fR,H.sx,hv,aA.nil _ _,rfl,rfl⟩
 have er:mN f pal=[x0]++jM f pal:=by unfold mN;rw[ae h48,hf];show aD x0.toNat::_=x0::_;rw[UInt8.ofNat_toNat];rfl
 have c4':=fR.cell c4;have UM:=PF hpo;rw[er];refine wk ?_;refine dV 41 [4,7] [0,1,2,3,5,6,4,7,8,9,10] H ?_;intro w H;refine H.wn ?_;intro w aaX H;replace H:=H.cB (c':=([x0]:ab).flatMap aI) rfl;obtain⟨V6,bC,H,adQ⟩:=H.cU;have hj:aF V6 ⟨some ⟨aaX,0,none⟩,1,1⟩ [x0]:=⟨rfl,aQ _,adQ.cells⟩
 refine wk ?_;refine(lf H.data hj ((((((l8.up hV2).up aw).up ar).up aN).up bC)) (by simp only[bT];omega)).use ?_;rintro q w⟨rj,rfl,K⟩;replace H:=H.cq K;obtain⟨V7,fH,H,hrj⟩:=Rel.aJ H;refine H.wg ?_;intro w H;exact⟨V7,h,rj,_,_,(fR.trans bC).trans fH,H.sx,(hv.up bC).up fH,hrj,rfl,rfl⟩
theorem ahB(hV:Sub V W){s:Sl}{S:List cv}(hs:oU V s S)(hl:S.length<=1000):aB 91 [s.v] W λv w'=>∃(V':ad) (h:VH),Sub V V'/\Rel W V [] V' w'/\v=gw h/\cb V' h (kJ S):=by
 have H:=aG hV;have fu:=hs.len;obtain⟨gs,hgs,hpw⟩:=hs;have rD:=hpw.len;refine eV Tryz.func91 33 [0,2,3,4,9] ?_;refine H.wn ?_;intro w b2 H;refine H.wn ?_;intro w b3 H;refine H.wg ?_;intro w H;replace H:=H.br 27 5;refine aP (S:=Nat×Sl×List VH) al [0,2,3] (λq=>[(4,iv q.1)]) (λq w'=>q.1<=S.length/\∃V3,Sub V V3/\Pw Ac V3 q.2.2 (S.take q.1)/\Rel W V [.row q.2.1 27 5 (q.2.2.flatMap a8),.ay b3 [iv 3,iv 0,.slice none 0 0,.slice none 0 0,q.2.1.v] 27,.ay b2 (a8 aV) 27] V3 w') (λq _=>S.length-q.1) (0,⟨none,0,0⟩,[]) ?_;conv=>whnf
 refine⟨sB,⟨aa,V,aS _,Pw.nil,H⟩,?_⟩;clear H;rintro⟨kk,pr,hh⟩w⟨nt,V3,aw,hP,H⟩;dsimp only at nt hP H |-;by_cases hlt:kk<S.length
 ·obtain⟨p0,c0,c1⟩:=(hgs.up aw).fF (g:=λh:Nat×Sl=>iv (h.1:Int)) (g':=λh:Nat×Sl=>h.2.v) (λ_=>rfl) (i:=kk) aa;have hR:=hpw.all kk _ _ (bz aa) (bz hlt);obtain⟨x,hx⟩:∃x,x=gs[kk]'aa:=⟨_,rfl⟩
  obtain⟨y,hy⟩:∃y,y=S[kk]:=⟨_,rfl⟩
  rw[<-hx,<-hy]at hR;rw[<-hx]at c0 c1;have hst:=bK hlt;rw[<-hy]at hst;obtain⟨xa,xs⟩:=x;obtain⟨ya,yd⟩:=y;obtain⟨rK,hby⟩:=hR;dsimp only at hby rK c0 c1;subst rK;have hpl:=hP.len;rw[bg]at hpl;refine wk ?_;refine Li (id:=5) al mixed [2,15,17] [0,1,3,4,5,6,7,8,9,10,11,12,13,14,2,15,16,17,18,19,20] [(2,[]),(15,[]),(17,[2,15]),(18,[2,15,17]),(20,[2,15,17,18])] av ?_;intro w bG;replace H:=Rel.ext H bG.ext;repeat' (refine wk ?_;first|refine And.intro ?_ ?_|(refine H.nA ?_;clear H;intro w _ H))
  ·rename_i bn wx bp bt;refine Rel.ub (f:=a8) (l:=hh) (x:=⟨4,0,⟨none,0,0⟩,⟨some ⟨bn,0,none⟩,2,2⟩,⟨some ⟨bp,0,none⟩,2,2⟩⟩) rfl (λ_=>rfl) (by simp[Value.oneCell']) H (by show(hh.length+1)*88<=_;omega) aa ?_;intro uX w H;refine H.wg ?_;intro w H;have H0:Rel W V [.ay bn [str Cb,str Cc] 9,.ay bp (a8 (jo (xa:Int))++a8 (ft xs)) 27,.row uX 27 5 ((hh++[(⟨4,0,⟨none,0,0⟩,⟨some ⟨bn,0,none⟩,2,2⟩,⟨some ⟨bp,0,none⟩,2,2⟩⟩:VH)]).flatMap a8),.ay b3 [iv 3,iv 0,.slice none 0 0,.slice none 0 0,uX.v] 27,.ay b2 (a8 aV) 27] V3 w:=H.pick;obtain⟨V4,ar,H,hbn⟩:=H0.cU;obtain⟨V5,aN,H,DF⟩:=H.cU;have q7:=ar.trans aN;refine⟨sB,(kk+1,uX,hh++[⟨4,0,⟨none,0,0⟩,⟨some ⟨bn,0,none⟩,2,2⟩,⟨some ⟨bp,0,none⟩,2,2⟩⟩]),sB,⟨by dsimp only;omega,V5,aw.trans q7,?_,H⟩,by dsimp only;omega⟩;dsimp only;rw[hst];exact(hP.up FC q7).snoc (Pu ⟨rfl,aQ _,hbn.cells.tL aN⟩ ⟨rfl,aQ _,DF.cells⟩ (hby.up (aw.trans q7)))
  rename_i bp wx bn bt;refine Rel.ub (f:=a8) (l:=hh) (x:=⟨4,0,⟨none,0,0⟩,⟨some ⟨bn,0,none⟩,2,2⟩,⟨some ⟨bp,0,none⟩,2,2⟩⟩) rfl (λ_=>rfl) (by simp[Value.oneCell']) H (by show(hh.length+1)*88<=_;omega) aa ?_;intro uX w H;refine H.wg ?_;intro w H;have H0:Rel W V [.ay bn [str Cb,str Cc] 9,.ay bp (a8 (jo (xa:Int))++a8 (ft xs)) 27,.row uX 27 5 ((hh++[(⟨4,0,⟨none,0,0⟩,⟨some ⟨bn,0,none⟩,2,2⟩,⟨some ⟨bp,0,none⟩,2,2⟩⟩:VH)]).flatMap a8),.ay b3 [iv 3,iv 0,.slice none 0 0,.slice none 0 0,uX.v] 27,.ay b2 (a8 aV) 27] V3 w:=H.pick;obtain⟨V4,ar,H,hbn⟩:=H0.cU;obtain⟨V5,aN,H,DF⟩:=H.cU;have q7:=ar.trans aN;refine⟨sB,(kk+1,uX,hh++[⟨4,0,⟨none,0,0⟩,⟨some ⟨bn,0,none⟩,2,2⟩,⟨some ⟨bp,0,none⟩,2,2⟩⟩]),sB,⟨by dsimp only;omega,V5,aw.trans q7,?_,H⟩,by dsimp only;omega⟩;dsimp only;rw[hst];exact(hP.up FC q7).snoc (Pu ⟨rfl,aQ _,hbn.cells.tL aN⟩ ⟨rfl,aQ _,DF.cells⟩ (hby.up (aw.trans q7)))
 obtain rfl:kk=S.length:=aa;rw[fA]at hP;obtain⟨V4,ar,H,hr⟩:=Rel.aJ H;refine H.wg ?_;intro w H;exact⟨V4,⟨3,0,⟨none,0,0⟩,⟨none,0,0⟩,pr⟩,aw.trans ar,H.sx,rfl,Uf hr (hP.up FC ar)⟩
theorem alX(hV:Sub V W){s:Sl}{S:List cv}(hs:oU V s S)(hl:S.length<=1000)(hok:mT S):aB 93 [s.v] W λv w'=>∃r:Sl,v=r.v/\Rel W V [.row r 3 1 ((ints (gv S)).flatMap bN)] V w':=by
 have H:=aG hV;have fu:=hs.len;obtain⟨gs,hgs,hpw⟩:=hs;have rD:=hpw.len;refine eV Tryz.func93 30 [0,2,3,4,5,9,19] ?_;refine wk ?_;replace H:=H.br 3 1;refine aP (S:=Nat×Sl) al [0,2] (λq=>[(3,q.2.v),(4,iv q.1)]) (λq w'=>q.1<=S.length/\Rel W V [.row q.2 3 1 ((ints (gv (S.take q.1))).flatMap bN)] V w') (λq _=>S.length-q.1) (0,⟨none,0,0⟩) ?_;conv=>whnf
 refine⟨sB,⟨aa,H⟩,?_⟩;clear H;rintro⟨kk,r0⟩w⟨nt,H⟩;dsimp only at nt H |-;by_cases hlt:kk<S.length
 ·obtain⟨p0,c0,c1⟩:=hgs.fF (g:=λh:Nat×Sl=>iv (h.1:Int)) (g':=λh:Nat×Sl=>h.2.v) (λ_=>rfl) (i:=kk) aa;have hR:=hpw.all kk _ _ (bz aa) (bz hlt);obtain⟨x,hx⟩:∃x,x=gs[kk]'aa:=⟨_,rfl⟩
  obtain⟨y,hy⟩:∃y,y=S[kk]:=⟨_,rfl⟩
  rw[<-hx,<-hy]at hR;rw[<-hx]at c0 c1;have Nz:=hok y (by rw[hy];exact bS hlt);have hyn:=iC.2 Nz.2.1;have Np:=Qg (S:=S.take kk) λz hz=>by have:=hok z (nG hz);omega
  rw[bg]at Np;have ff:=Zl hlt;rw[<-hy]at ff;obtain⟨xa,xs⟩:=x;obtain⟨_,hby⟩:=hR;dsimp only at hby c0 c1;have hbl:=hby.len;have qk:=Qe y.2.length;refine wk ?_;refine aP (S:=Sl×au×Nat) al [0,2,4,9] (λq=>[(3,q.1.v),(5,iv q.2.2)]) (λq w'=>1<=q.2.2/\q.2.2<=65536/\q.2.1++ir q.2.2=ir y.2.length/\Rel W V [.row q.1 3 1 ((ints (gv (S.take kk)++q.2.1)).flatMap bN)] V w') (λq _=>q.2.2) (r0,[],y.2.length) ?_;conv=>whnf
  refine⟨⟨rfl,ax (λz=>some (iv z)) (by dsimp only;omega),trivial⟩,⟨by dsimp only;omega,by dsimp only;omega,rfl,by dsimp only;rw[aZ];exact H⟩,?_⟩;clear H;rintro⟨r,pre,n⟩w⟨jT,hn2,hpre,H⟩;dsimp only at jT hn2 hpre H |-;have hpl:=ax bU hpre;rw[ak]at hpl;by_cases h16:16<n
  ·refine H.wg ?_;intro _ w H;refine Rel.bF (f:=bN) (l:=ints (gv (S.take kk)++pre)) (x:=16) rfl (λ_=>rfl) (by simp[Value.oneCell']) H (by show((ints (gv (S.take kk)++pre)).length+1)*8<=_;simp only[aW,ak];omega) (by simp only[aW,ak];omega) ?_;intro r1 w H;rw[show ints (gv (S.take kk)++pre)++[16]=ints (gv (S.take kk)++(pre++[16]))by simp]at H;refine wk ?_;exact⟨sB,(r1,pre++[16],n-16),⟨rfl,ax (λz=>some (iv z)) (by dsimp only;omega),trivial⟩,⟨by dsimp only;omega,by dsimp only;omega,by dsimp only;rw[bj,<-hpre,Qc h16];rfl,H⟩,by dsimp only;omega⟩
  refine H.wg ?_;intro _ w H;refine Rel.bF (f:=bN) (l:=ints (gv (S.take kk)++pre)) (x:=(n:Int)) rfl (λ_=>rfl) (by simp[Value.oneCell']) H (by show((ints (gv (S.take kk)++pre)).length+1)*8<=_;simp only[aW,ak];omega) (by simp only[aW,ak];omega) ?_;intro r1 w H;rw[show ints (gv (S.take kk)++pre)++[(n:Int)]=ints (gv (S.take kk)++(pre++[n]))by simp,show pre++[n]=ir y.2.length by rw[<-hpre,Qf aa aa],<-ff]at H;refine wk ?_;exact⟨sB,(kk+1,r1),sB,⟨by dsimp only;omega,H⟩,by dsimp only;omega⟩
 obtain rfl:kk=S.length:=aa;rw[fA]at H;refine wk ?_;exact⟨r0,rfl,H⟩
theorem YD(hV:Sub V W){fl:Nat}(hf:fl<1000){s:Sl}{Z:au}(hs:aA bN V s (ints Z))(od:Z.length<=1000)(hZ:∀n∈Z,n<=255):aB 94 [iv (fl:Int),s.v] W λv w'=>∃(V':ad) (r:Sl),Sub V V'/\Rel W V [] V' w'/\v=r.v/\aF V' r (iD fl Z):=by
 have H:=aG hV;have fu:=hs.len;rw[aW]at fu;refine eV Tryz.func94 34 [0,1,4,5,6,13,23] ?_;by_cases h0:fl=0/\Z=[]
 ·have e:iD fl Z=[]:=by unfold iD;rw[ag h0]
  obtain⟨h1,h2⟩:=h0;have h3:Z.length=0:=by rw[h2];rfl
  rw[e];refine wk ?_;exact⟨V,⟨none,0,0⟩,aS _,H.sx,rfl,aA.nil _ _⟩
 have e:iD fl Z=az fl++cm az (ints Z):=by unfold iD;rw[ae h0]
 rw[e];have hpl:=I4 (Z:=Z) od hZ;have hpn:=dq (n:=(fl:Int)) aa aa;have hpz:=dq (n:=(Z.length:Int)) aa aa;have dK:(ints Z).length=Z.length:=ah;by_cases h1:fl=0
 ·have h3:Z.length≠0:=λq=>h0 ⟨h1,dt q⟩;refine wk ?_;refine(iR (n:=(fl:Int)) H.data (by constructor<;>omega)).use ?_;rintro v w⟨r1,rfl,K⟩;replace H:=Rel.call H K;simp only[aZ]at H;obtain⟨V2,hV2,H,hr1⟩:=Rel.aJ H;refine wk ?_;rw[fu];refine(iR (n:=(Z.length:Int)) H.data (by constructor<;>omega)).use ?_;rintro v w⟨r2,rfl,K⟩;replace H:=Rel.call H K;simp only[aZ]at H;obtain⟨V3,aw,H,hr2⟩:=Rel.aJ H;refine wk ?_;refine(lf H.data (hr1.up aw) hr2 aa).use ?_;rintro v w⟨r3,rfl,K⟩;replace H:=Rel.call H K;simp only[aZ]at H;have bu:=hV2.trans aw;refine wk ?_;refine aP (S:=Nat×Sl) al [0,1,4,13] (λq=>[(5,q.2.v),(6,iv q.1)]) (λq w'=>q.1<=Z.length/\Rel W V [.row q.2 5 1 ((az fl++az Z.length++((ints Z).take q.1).flatMap az).flatMap aI)] V3 w') (λq _=>Z.length-q.1) (0,r3) ?_;conv=>whnf
  refine⟨sB,⟨aa,by rw[kM,eL,aZ];exact H⟩,?_⟩;clear H;rintro⟨k,r⟩w⟨hk,H⟩;dsimp only at hk H |-;by_cases hlt:k<Z.length
  ·have gP:k<(ints Z).length:=aa;obtain⟨p0,c0⟩:=(hs.up bu).aR (g:=iv) (λ_=>rfl) gP;have ht:=bK gP;obtain⟨z,hz⟩:∃z,z=(ints Z)[k]:=⟨_,rfl⟩
   have NB:0<=z/\z<=255:=by obtain⟨n,hn,e⟩:=cJ.1 (show z∈ints Z by rw[hz];exact bS gP);have:=hZ n hn;omega
   rw[<-hz]at c0 ht;have hfl:(((ints Z).take k).flatMap az).length+(az z).length<=((ints Z).flatMap az).length:=by have:=vD (enc:=az) gP;rw[<-hz]at this;exact this
   unfold cm at hpl;rw[ak]at hpl;refine wk ?_;refine(iR (n:=z) H.data (by constructor<;>omega)).use ?_;rintro v w⟨rz,rfl,K⟩;replace H:=H.cq K;refine wk ?_;refine Rel.eB H (i:=0) rfl (by simp only[ak];omega) ?_;intro rn w H;simp only[bH]at H;rw[show az (fl:Int)++az (Z.length:Int)++((ints Z).take k).flatMap az++az z=az (fl:Int)++az (Z.length:Int)++((ints Z).take (k+1)).flatMap az by rw[ht,cw,bj];simp]at H;refine wk ?_;exact⟨sB,(k+1,rn),sB,⟨by dsimp only;omega,H⟩,by dsimp only;omega⟩
  obtain rfl:k=Z.length:=aa;rw[bJ aa]at H;rw[show az (fl:Int)++az (Z.length:Int)++(ints Z).flatMap az=az (fl:Int)++cm az (ints Z)by unfold cm;rw[dK,bj]]at H;obtain⟨V4,ar,H,hr⟩:=Rel.aJ H;refine wk ?_;exact⟨V4,r,bu.trans ar,H.sx,rfl,hr⟩
 refine wk ?_;refine(iR (n:=(fl:Int)) H.data (by constructor<;>omega)).use ?_;rintro v w⟨r1,rfl,K⟩;replace H:=Rel.call H K;simp only[aZ]at H;obtain⟨V2,hV2,H,hr1⟩:=Rel.aJ H;refine wk ?_;rw[fu];refine(iR (n:=(Z.length:Int)) H.data (by constructor<;>omega)).use ?_;rintro v w⟨r2,rfl,K⟩;replace H:=Rel.call H K;simp only[aZ]at H;obtain⟨V3,aw,H,hr2⟩:=Rel.aJ H;refine wk ?_;refine(lf H.data (hr1.up aw) hr2 aa).use ?_;rintro v w⟨r3,rfl,K⟩;replace H:=Rel.call H K;simp only[aZ]at H;have bu:=hV2.trans aw;refine wk ?_;refine aP (S:=Nat×Sl) al [0,1,4,13] (λq=>[(5,q.2.v),(6,iv q.1)]) (λq w'=>q.1<=Z.length/\Rel W V [.row q.2 5 1 ((az fl++az Z.length++((ints Z).take q.1).flatMap az).flatMap aI)] V3 w') (λq _=>Z.length-q.1) (0,r3) ?_;conv=>whnf
 refine⟨sB,⟨aa,by rw[kM,eL,aZ];exact H⟩,?_⟩;clear H;rintro⟨k,r⟩w⟨hk,H⟩;dsimp only at hk H |-;by_cases hlt:k<Z.length
 ·have gP:k<(ints Z).length:=aa;obtain⟨p0,c0⟩:=(hs.up bu).aR (g:=iv) (λ_=>rfl) gP;have ht:=bK gP;obtain⟨z,hz⟩:∃z,z=(ints Z)[k]:=⟨_,rfl⟩
  have NB:0<=z/\z<=255:=by obtain⟨n,hn,e⟩:=cJ.1 (show z∈ints Z by rw[hz];exact bS gP);have:=hZ n hn;omega
  rw[<-hz]at c0 ht;have hfl:(((ints Z).take k).flatMap az).length+(az z).length<=((ints Z).flatMap az).length:=by have:=vD (enc:=az) gP;rw[<-hz]at this;exact this
  unfold cm at hpl;rw[ak]at hpl;refine wk ?_;refine(iR (n:=z) H.data (by constructor<;>omega)).use ?_;rintro v w⟨rz,rfl,K⟩;replace H:=H.cq K;refine wk ?_;refine Rel.eB H (i:=0) rfl (by simp only[ak];omega) ?_;intro rn w H;simp only[bH]at H;rw[show az (fl:Int)++az (Z.length:Int)++((ints Z).take k).flatMap az++az z=az (fl:Int)++az (Z.length:Int)++((ints Z).take (k+1)).flatMap az by rw[ht,cw,bj];simp]at H;refine wk ?_;exact⟨sB,(k+1,rn),sB,⟨by dsimp only;omega,H⟩,by dsimp only;omega⟩
 obtain rfl:k=Z.length:=aa;rw[bJ aa]at H;rw[show az (fl:Int)++az (Z.length:Int)++(ints Z).flatMap az=az (fl:Int)++cm az (ints Z)by unfold cm;rw[dK,bj]]at H;obtain⟨V4,ar,H,hr⟩:=Rel.aJ H;refine wk ?_;exact⟨V4,r,bu.trans ar,H.sx,rfl,hr⟩
structure aal(W V:ad)(o:Option bf)(v:aj)(w':ad):Prop where
 ex:∃(V':ad) (r:Sl) (hs:List Sl) (k:Bool),Sub V V'/\Rel W V [] V' w'/\v=.tuple #[r.v,.bool k]/\(match o with
  | none=>k=false
  | some rs=>k=true/\aA du V' r hs/\Pw lW V' hs rs)
theorem ahn(h:l.length<=1):dL lo l=([],l):=by
 match l,h with
 | [],_=>rfl
 | [a],_=>rfl
 | a::b::t,h=>simp at h
theorem ahl(h:eO lo a=none):dL lo (a::b::t)=([],a::b::t):=by unfold dL;rw[h]
theorem ahm(h:eO lo a=some x)(h2:eO lo b=none):dL lo (a::b::t)=([],a::b::t):=by unfold dL;rw[h,h2]
theorem aho{y:Nat}(h:eO lo a=some x)(h2:eO lo b=some y):dL lo (a::b::t)=(aD (16*x+y)::(dL lo t).1,(dL lo t).2):=by
 conv=>lhs;unfold dL
 rw[h,h2]
theorem PH:∀(l:ab),gT l<=255*l.length
 | []=>aQ _
 | c::l=>by
  have:=PH l;have:=c.toNat_lt;have e:gT (c::l)=c.toNat+gT l:=by simp[gT]
  rw[e,aq];omega
theorem ad7(hV:Sub V W){s:Sl}{l:ab}(hs:aF V s l)(hl:l.length<=1000){fl:Nat}(hf:fl<4):aB 90 [s.v,.bool (cQ fl),.bool (decide (2<=fl))] W (aal W V (ig fl l)):=by
 have H:=aG hV;have hlen:=hs.len;refine eV Tryz.func90 132 [0,1,2,6,7,8,9,10,11,12,16,21,47,69,80,93,99,126] ?_;refine wk ?_;replace H:=H.br 22 1;refine aP (S:=Nat×Sl×List Sl×bf) al [0,1,2] (λq=>[(8,q.2.1.v),(9,iv q.1)]) (λq w'=>q.1<=l.length/\q.2.2.2.length<=q.1/\(ig fl l=match ig fl (l.drop q.1)with
   | none=>none
   | some rs=>some (q.2.2.2++rs))/\∃V3,Sub V V3/\Pw lW V3 q.2.2.1 q.2.2.2/\Rel W V [.row q.2.1 22 1 (q.2.2.1.flatMap du)] V3 w') (λq _=>l.length-q.1) (0,⟨none,0,0⟩,[],[]) ?_
 conv=>whnf
 refine⟨sB,⟨aa,ah,?_,V,aS _,Pw.nil,H⟩,?_⟩
 ·dsimp only;rw[lj];cases ig fl l<;>rfl
 clear H;rintro⟨p,r,gs,done⟩w⟨hp,hdl,iY,V3,aw,hP,H⟩;dsimp only at hp hdl iY hP H |-;by_cases hlt:p<l.length;rotate_left
 ·obtain rfl:p=l.length:=aa;rw[List.drop_length,O7]at iY;dsimp only at iY;rw[aZ]at iY;rw[iY];obtain⟨V4,ar,H,hr⟩:=Rel.aJ H;refine wk ?_;exact⟨V4,r,gs,true,aw.trans ar,H.sx,rfl,rfl,hr,hP.up (λ_ _ _ _ k h=>h.up k) ar⟩
 have hd:=dk hlt;have hbad:lQ fl (l.drop p)=none->ig fl l=none:=λh=>by rw[iY,XH (by rw[hd];exact List.cons_ne_nil _ _) h]
 obtain⟨p0,c0⟩:=(hs.up aw).aR (g:=bv) (λ_=>rfl) hlt;by_cases vG:l[p]=58;rotate_left
 ·rw[hbad (by rw[hd,Fq,ae λq=>vG q.1])];have hne:l[p].toNat≠58:=λe=>vG (bL.1 e);generalize l[p]=c at c0 hne;refine wk ?_;exact⟨V3,⟨none,0,0⟩,[],false,aw,H.sx,rfl,rfl⟩
 rw[vG]at c0 hd;rw[hd]at hbad;rw[Fq]at hbad;refine wk ?_;replace H:=H.br 5 1
 refine aM.cut 2 (λq:Nat×Sl=>[(0,s.v),(1,.bool (cQ fl)),(2,.bool (decide (2<=fl))),(8,r.v),(9,iv q.1),(10,q.2.v)])
  (λq w'=>∃raw,p+1<=q.1/\q.1<=l.length/\raw.length<=1000/\dL (cQ fl) (l.drop (p+1))=(raw,l.drop q.1)/\Rel W V [.row q.2 5 1 (raw.flatMap aI),.row r 22 1 (gs.flatMap du)] V3 w') ?_ ?_
 ·refine aP (S:=Nat×Sl×ab) al [0,1,2,6,7,8,11,12,16,21,69,80,93,99,126] (λq=>[(9,iv q.1),(10,q.2.1.v)]) (λq w'=>p+1<=q.1/\q.1<=l.length/\q.2.2.length<=q.1/\dL (cQ fl) (l.drop (p+1))=(q.2.2++(dL (cQ fl) (l.drop q.1)).1,(dL (cQ fl) (l.drop q.1)).2)/\Rel W V [.row q.2.1 5 1 (q.2.2.flatMap aI),.row r 22 1 (gs.flatMap du)] V3 w') (λq _=>l.length-q.1) (p+1,⟨none,0,0⟩,[]) ?_;conv=>whnf
  refine⟨⟨ax (λz=>some (iv z)) (by dsimp only;omega),rfl,trivial⟩,⟨aa,by dsimp only;omega,ah,rfl,H⟩,?_⟩;clear H;rintro⟨q,rr,raw⟩w⟨jF,iA,hrl,iO,H⟩;dsimp only at jF iA hrl iO H |-;by_cases hq:q+1<l.length;rotate_left
  ·have e:=ahn (lo:=cQ fl) (l:=l.drop q) (by rw[aU];omega);rw[e]at iO;dsimp only at iO;rw[aZ]at iO;refine wk ?_;exact⟨(q,rr),sB,raw,jF,iA,aa,iO,H⟩
  have yb:l.drop q=l[q]::l[q+1]::l.drop (q+2):=by rw[dk (show q<l.length by omega),dk hq]
  obtain⟨pq,d0⟩:=(hs.up aw).aR (g:=bv) (λ_=>rfl) (show q<l.length by omega);obtain⟨_,d1⟩:=(hs.up aw).aR (g:=bv) (λ_=>rfl) hq;generalize l[q]=a at d0 yb;generalize l[q+1]=b at d1 yb;refine wk ((HM a (cQ fl) H.data).use ?_);rintro v w⟨rfl,K⟩;replace H:=H.bd K;cases hx:eO (cQ fl) a with
  | none =>have hn:=HH.2 hx;have e:=ahl (b:=b) (t:=l.drop (q+2)) hx;rw[<-yb]at e;rw[e]at iO;dsimp only at iO;rw[aZ]at iO;generalize jR (cQ fl) a=z at hn;refine wk ?_;exact⟨(q,rr),sB,raw,jF,iA,aa,iO,H.sx⟩
  | some x =>
  have dO:=DL hx;rw[dO];refine wk ((HM b (cQ fl) H.data).use ?_);rintro v w⟨rfl,K⟩;replace H:=H.bd K;cases hy:eO (cQ fl) b with
  | none =>have hn:=HH.2 hy;have e:=ahm (t:=l.drop (q+2)) hx hy;rw[<-yb]at e;rw[e]at iO;dsimp only at iO;rw[aZ]at iO;generalize jR (cQ fl) b=z at hn;refine wk ?_;exact⟨(q,rr),sB,raw,jF,iA,aa,iO,H.sx⟩
  | some y =>
  have Nx:=DL hy;rw[Nx];have anh:=(AY hx).1;have anj:=(AY hy).1;have e:=aho (t:=l.drop (q+2)) hx hy;rw[<-yb]at e;rw[e]at iO;dsimp only at iO;refine wk ?_;refine dV 9 [6] [0,1,2,3,4,5,8,9,10,11,12,13,6,7,14,15,16,17,18,19] H ?_;intro w H;refine wk ((HM a (cQ fl) H.data).use ?_);rintro v w⟨rfl,K⟩;replace H:=H.bd K;rw[dO];refine wk ((HM b (cQ fl) H.data).use ?_);rintro v w⟨rfl,K⟩;replace H:=H.bd K;rw[Nx];refine H.wg ?_;intro _ w H;rw[show bO .u8 (wr .u8 (16*(x:Int)+(y:Int)))=bv (aD (16*x+y))by simp only[bv];rw[dB aa];congr 1;show(16*(x:Int)+(y:Int))%256=_;omega]at H
  refine Rel.bF (f:=aI) (l:=raw) (x:=aD (16*x+y)) rfl (λ_=>rfl) (by simp[Value.oneCell',bv]) H (by show(raw.length+1)*1<=_;omega) aa ?_;intro r1 w H;refine wk ?_;exact⟨sB,(q+2,r1,raw++[aD (16*x+y)]),⟨ax (λz=>some (iv z)) (by dsimp only;omega),rfl,trivial⟩,⟨by dsimp only;omega,by dsimp only;omega,by simp;omega,by dsimp only;rw[bj];exact iO,H⟩,by dsimp only;omega⟩
 clear H;rintro⟨q,rr⟩w⟨raw,jF,iA,hrl,iO,H⟩;dsimp only at jF iA iO H |-;rw[iO]at hbad;dsimp only at hbad;have oe:¬((l.drop q).take (cW fl).length=cW fl/\j0 raw)->ig fl l=none:=λh=>hbad (by rw[ae λz=>h z.2]);have HV:(l.drop q).take (cW fl).length=cW fl->j0 raw->lQ fl (l.drop p)=some (raw,(l.drop q).drop (cW fl).length):=λh1 h2=>by rw[hd,Fq,iO,ag ⟨rfl,h1,h2⟩]
 clear hbad;obtain⟨V4,ar,H,hr⟩:=Rel.aJ H;have gA:=aw.trans ar;have yx:=hr.len;by_cases h2:2<=fl
 ·have he:cW fl=[13,10]:=by unfold cW;rw[ag h2]
  rw[he]at oe HV;by_cases vW:q<l.length;rotate_left
  ·rw[oe λz=>by have:=z.1;rw[fc aa]at this;cases this]
   refine wk ?_;exact⟨V4,⟨none,0,0⟩,[],false,gA,H.sx,rfl,rfl⟩
  obtain⟨pq,d0⟩:=(hs.up gA).aR (g:=bv) (λ_=>rfl) vW;have rA:=dk vW;by_cases j7:l[q]=13;rotate_left
  ·rw[oe λz=>by have:=z.1;rw[rA]at this;exact j7 (OQ this).1]
   have hne:l[q].toNat≠13:=λe=>j7 (bL.1 e);generalize l[q]=c at d0 hne;refine wk ?_;exact⟨V4,⟨none,0,0⟩,[],false,gA,H.sx,rfl,rfl⟩
  rw[j7]at d0 rA;by_cases UC:q+1<l.length;rotate_left
  ·rw[oe λz=>by have:=z.1;rw[rA,fc (show l.length<=q+1 by omega)]at this;cases this]
   refine wk ?_;refine wk ?_;exact⟨V4,⟨none,0,0⟩,[],false,gA,H.sx,rfl,rfl⟩
  obtain⟨_,d1⟩:=(hs.up gA).aR (g:=bv) (λ_=>rfl) UC;have adX:=dk UC;rw[adX]at rA;by_cases h10:l[q+1]=10;rotate_left
  ·rw[oe λz=>by have:=z.1;rw[rA]at this;exact h10 (OQ (OQ this).2).1]
   have hne:l[q+1].toNat≠10:=λe=>h10 (bL.1 e);generalize l[q+1]=c at d1 hne;refine wk ?_;refine wk ?_;exact⟨V4,⟨none,0,0⟩,[],false,gA,H.sx,rfl,rfl⟩
  rw[h10]at d1 rA;have jV:(l.drop q).take 2=[13,10]:=by rw[rA];rfl
  have eT:(l.drop q).drop 2=l.drop (q+2):=by rw[gK]
  refine wk ?_;refine aP (S:=Nat) al [0,1,2,6,7,8,9,10,16,21,47,69,80,93,126] (λk=>[(11,iv ((gT (raw.take k):Nat):Int)),(12,iv k)]) (λk w'=>k<=raw.length/\Rel W V [.row r 22 1 (gs.flatMap du)] V4 w') (λk _=>raw.length-k) 0 ?_;conv=>whnf
  refine⟨sB,⟨aa,H⟩,?_⟩;clear H;rintro k w⟨hk,H⟩;have rI:=PH (raw.take k);rw[bg]at rI;by_cases gk:k<raw.length
  ·obtain⟨pr,e0⟩:=hr.aR (g:=bv) (λ_=>rfl) gk;have hst:=PI gk;have hc:=(raw[k]).toNat_lt;generalize raw[k]=c at e0 hst hc;obtain⟨z,hz⟩:∃z,z=gT (raw.take k):=⟨_,rfl⟩
   rw[<-hz]at hst rI |-;refine wk ?_;exact⟨sB,k+1,⟨ax (λz=>some (iv z)) (by rw[hst];omega),ax (λz=>some (iv z)) aa,trivial⟩,⟨aa,H⟩,aa⟩
  obtain rfl:k=raw.length:=aa;rw[fA]at rI |-;obtain⟨z,hz⟩:∃z,z=gT raw:=⟨_,rfl⟩
  rw[<-hz]at rI |-;by_cases h5:5<=raw.length;rotate_left
  ·rw[oe λz=>h5 z.2.1];refine wk ?_;exact⟨V4,⟨none,0,0⟩,[],false,gA,H.sx,rfl,rfl⟩
  obtain⟨pr,e0⟩:=hr.aR (g:=bv) (λ_=>rfl) (i:=0) aa;have mG:b8 raw 0=(raw[0]'aa).toNat:=by simp[b8,show 0<raw.length by omega]
  have Us:=(raw[0]'aa).toNat_lt;by_cases h6:raw.length=5+b8 raw 0;rotate_left
  ·rw[oe λz=>h6 z.2.2.1];rw[mG]at h6;refine wk ?_;exact⟨V4,⟨none,0,0⟩,[],false,gA,H.sx,rfl,rfl⟩
  have Dk:=h6;rw[mG]at Dk;by_cases h7:z%256=0;rotate_left
  ·rw[oe λy=>h7 (by rw[hz];exact y.2.2.2)];refine wk ?_;exact⟨V4,⟨none,0,0⟩,[],false,gA,H.sx,rfl,rfl⟩
  have hok:j0 raw:=⟨h5,h6,by rw[<-hz];exact h7⟩
  have ym:=HV jV hok;replace ym:lQ fl (l.drop p)=some (raw,l.drop (q+2)):=by rw[<-eT];exact ym
  rw[JA ym]at iY;refine H.wg ?_;intro _ w H;refine Rel.bF (f:=du) (l:=gs) (x:=rr) rfl (λ_=>rfl) (by simp[Value.oneCell']) H (by show(gs.length+1)*24<=_;have:=hP.len;omega) (by have:=hP.len;omega) ?_;intro r1 w H;refine wk ?_;refine⟨sB,((q+2),r1,gs++[rr],done++[raw]),⟨rfl,ax (λz=>some (iv z)) (by dsimp only;omega),trivial⟩,⟨by dsimp only;omega,by simp;omega,?_,V4,gA,(hP.up (λ_ _ _ _ k h=>h.up k) ar).snoc hr,H⟩,by dsimp only;omega⟩;dsimp only;rw[iY];cases ig fl (l.drop (q+2))with
  | none=>rfl
  | some rs=>simp only[bj,bb,aL]
 have he:cW fl=[10]:=by unfold cW;rw[ae h2]
 rw[he]at oe HV;by_cases vW:q<l.length;rotate_left
 ·rw[oe λz=>by have:=z.1;rw[fc aa]at this;cases this]
  refine wk ?_;exact⟨V4,⟨none,0,0⟩,[],false,gA,H.sx,rfl,rfl⟩
 obtain⟨pq,d0⟩:=(hs.up gA).aR (g:=bv) (λ_=>rfl) vW;have rA:=dk vW;by_cases h10:l[q]=10;rotate_left
 ·rw[oe λz=>by have:=z.1;rw[rA]at this;exact h10 (OQ this).1]
  have hne:l[q].toNat≠10:=λe=>h10 (bL.1 e);generalize l[q]=c at d0 hne;refine wk ?_;exact⟨V4,⟨none,0,0⟩,[],false,gA,H.sx,rfl,rfl⟩
 rw[h10]at d0 rA;have jV:(l.drop q).take 1=[10]:=by rw[rA];rfl
 have eT:(l.drop q).drop 1=l.drop (q+1):=by rw[gK]
 refine wk ?_;refine aP (S:=Nat) al [0,1,2,6,7,8,9,10,16,21,47,69,80,93,126] (λk=>[(11,iv ((gT (raw.take k):Nat):Int)),(12,iv k)]) (λk w'=>k<=raw.length/\Rel W V [.row r 22 1 (gs.flatMap du)] V4 w') (λk _=>raw.length-k) 0 ?_;conv=>whnf
 refine⟨sB,⟨aa,H⟩,?_⟩;clear H;rintro k w⟨hk,H⟩;have rI:=PH (raw.take k);rw[bg]at rI;by_cases gk:k<raw.length
 ·obtain⟨pr,e0⟩:=hr.aR (g:=bv) (λ_=>rfl) gk;have hst:=PI gk;have hc:=(raw[k]).toNat_lt;generalize raw[k]=c at e0 hst hc;obtain⟨z,hz⟩:∃z,z=gT (raw.take k):=⟨_,rfl⟩
  rw[<-hz]at hst rI |-;refine wk ?_;exact⟨sB,k+1,⟨ax (λz=>some (iv z)) (by rw[hst];omega),ax (λz=>some (iv z)) aa,trivial⟩,⟨aa,H⟩,aa⟩
 obtain rfl:k=raw.length:=aa;rw[fA]at rI |-;obtain⟨z,hz⟩:∃z,z=gT raw:=⟨_,rfl⟩
 rw[<-hz]at rI |-;by_cases h5:5<=raw.length;rotate_left
 ·rw[oe λz=>h5 z.2.1];refine wk ?_;exact⟨V4,⟨none,0,0⟩,[],false,gA,H.sx,rfl,rfl⟩
 obtain⟨pr,e0⟩:=hr.aR (g:=bv) (λ_=>rfl) (i:=0) aa;have mG:b8 raw 0=(raw[0]'aa).toNat:=by simp[b8,show 0<raw.length by omega]
 have Us:=(raw[0]'aa).toNat_lt;by_cases h6:raw.length=5+b8 raw 0;rotate_left
 ·rw[oe λz=>h6 z.2.2.1];rw[mG]at h6;refine wk ?_;exact⟨V4,⟨none,0,0⟩,[],false,gA,H.sx,rfl,rfl⟩
 have Dk:=h6;rw[mG]at Dk;by_cases h7:z%256=0;rotate_left
 ·rw[oe λy=>h7 (by rw[hz];exact y.2.2.2)];refine wk ?_;exact⟨V4,⟨none,0,0⟩,[],false,gA,H.sx,rfl,rfl⟩
 have hok:j0 raw:=⟨h5,h6,by rw[<-hz];exact h7⟩
 have ym:=HV jV hok;replace ym:lQ fl (l.drop p)=some (raw,l.drop (q+1)):=by rw[<-eT];exact ym
 rw[JA ym]at iY;refine H.wg ?_;intro _ w H;refine Rel.bF (f:=du) (l:=gs) (x:=rr) rfl (λ_=>rfl) (by simp[Value.oneCell']) H (by show(gs.length+1)*24<=_;have:=hP.len;omega) (by have:=hP.len;omega) ?_;intro r1 w H;refine wk ?_;refine⟨sB,((q+1),r1,gs++[rr],done++[raw]),⟨rfl,ax (λz=>some (iv z)) (by dsimp only;omega),trivial⟩,⟨by dsimp only;omega,by simp;omega,?_,V4,gA,(hP.up (λ_ _ _ _ k h=>h.up k) ar).snoc hr,H⟩,by dsimp only;omega⟩;dsimp only;rw[iY];cases ig fl (l.drop (q+1))with
 | none=>rfl
 | some rs=>simp only[bj,bb,aL]
theorem afc(hV:Sub V W){x y:Sl}{a b:List Int}(hx:aA bN V x a)(hy:aA bN V y b)(ha:a.length<=1099511627776):aB 92 [x.v,y.v] W λv w'=>v=.bool (decide (a=b))/\Rel W V [] V w':=by
 have H:=aG hV;have h1:=hx.len;have h2:=hy.len;refine eV Tryz.func92 26 [0,1,4,5,10,14,25] ?_;by_cases hl:a.length=b.length;rotate_left
 ·refine wk ?_;rw[bA (λh=>hl (by rw[h]))];exact⟨rfl,H⟩
 refine wk ?_;refine aP (S:=Nat) al [0,1,10] (λk=>[(5,iv k)]) (λk w'=>k<=a.length/\a.take k=b.take k/\Rel W V [] V w') (λk _=>a.length-k) 0 ?_;conv=>whnf
 refine⟨sB,⟨aa,rfl,H⟩,?_⟩;clear H;rintro k w⟨hk,hz,H⟩;by_cases qg:k<a.length;rotate_left
 ·rw[bJ aa,bJ aa]at hz;refine wk ?_;rw[bw hz];exact⟨rfl,H⟩
 have vQ:k<b.length:=aa;obtain⟨hp,hc⟩:=hx.aR (g:=iv) (λ_=>rfl) qg;obtain⟨vU,hc'⟩:=hy.aR (g:=iv) (λ_=>rfl) vQ;have ta:=bK qg;have tb:=bK vQ;by_cases he:a[k]=b[k]
 ·rw[he]at hc ta;refine wk ?_;refine dV 6 [] [0,1,2,3,4,5,6,7,8] H ?_;intro w H;refine wk ?_;exact⟨sB,k+1,sB,⟨aa,by rw[ta,tb,hz],H.sx⟩,aa⟩
 have hne:a≠b:=λh=>he (by subst h;rfl);generalize a[k]=u at hc he;generalize b[k]=v at hc' he;refine wk ?_;refine dV 6 [] [0,1,2,3,4,5,6,7,8] H ?_;intro w H;refine wk ?_;rw[bA hne];exact⟨rfl,H.sx⟩
theorem ahO{α β:Type}{R:ad->β->α->Prop}{V:ad}{hs:List β}{P:List α}{y:α}(h:Pw R V hs (P++[y])):∃hP x,hs=hP++[x]/\Pw R V hP P/\R V x y:=by
 have hl:=h.len;rw[ak,bT]at hl;rcases uZ hs with rfl|⟨hP,x,rfl⟩
 ·simp at hl
 rw[Fc]at h hl |-;rw[ak,bT]at hl;refine⟨hP,x,rfl,⟨aa,λk a b ha hb=>?_⟩,?_⟩
 ·have h1:=(List.getElem?_eq_some_iff.1 ha).1;exact h.all k a b (by rw[qx h1];exact ha) (by rw[qx aa];exact hb)
 exact h.all P.length x y (by rw[show P.length=hP.length by omega];simp) ah
theorem aeV(hV:Sub V W){s:Sl}{l:ab}(hs:aF V s l)(hl:l.length<=1000):aB 27 [s.v] W (Ae W V (hC l)):=by
 have H:=aG hV;have hlen:=hs.len;refine eV Tryz.func27 165 [0,2,3,4,5,6,7,8,9,10,11,12,13,14,15,17,36,40,65,94,116,154,159] ?_;refine H.wn ?_;intro w b2 H;refine wk ?_;refine aP (S:=Nat) al [0,2] (λf=>[(5,iv f)]) (λf w'=>f<=4/\(∀g,g<f->gB g l=none)/\∃V2,Sub V V2/\Rel W V [.ay b2 (a8 aV) 27] V2 w') (λf _=>4-f) 0 ?_;conv=>whnf
 refine⟨sB,⟨aa,λg hg=>by omega,V,aS _,H⟩,?_⟩;clear H;rintro f w⟨A3,hno,V2,hV2,H⟩;by_cases hf:f<4;rotate_left
 ·obtain rfl:f=4:=aa;rw[ME hno];refine H.wg ?_;intro w H;exact⟨V2,aV,⟨none,0,0⟩,zeroV,[],hV2,H.sx,cG _,aA.nil _ _,rfl⟩
 refine wk ?_;rw[show decide ((f:Int)%2=1)=cQ f from decide_eq_decide.2 aa,show decide ((2:Int)<=(f:Int))=decide (2<=f)from decide_eq_decide.2 aa];refine(ad7 H.data (hs.up hV2) hl hf).use ?_;rintro v w⟨V3,rr,gs,k,aw,K,rfl,hres⟩;replace H:=H.bd K;have bu:=hV2.trans aw;cases hr:ig f l with
 | none =>
  rw[hr]at hres;dsimp only at hres;subst hres;have hone:=ad1 hr;refine wk ?_;exact⟨sB,f+1,sB,⟨aa,λg hg=>by
   by_cases e:g=f
   ·rw[e];exact hone
   exact hno g aa,V3,bu,H.sx⟩,aa⟩
 | some rs =>
 rw[hr]at hres;dsimp only at hres;obtain⟨rfl,hrr,HW⟩:=hres;have hrl:=hrr.len;have rD:=HW.len;obtain⟨aei,Ec⟩:=sE.1 hr;have aeJ:=NL f rs;rw[<-aei]at aeJ;have hone:=ad2 hr;have HT:=ad8 hf hno hr;by_cases h0:rs=[]
 ·have aew:gB f l=none:=by rw[hone,h0,adf]
  have Tj:rs.length=0:=by rw[h0];rfl
  refine wk ?_;exact⟨sB,f+1,sB,⟨aa,λg hg=>by
   by_cases e:g=f
   ·rw[e];exact aew
   exact hno g aa,V3,bu,H.sx⟩,aa⟩
 have h0l:0<rs.length:=iC.2 h0;refine wk ?_;replace H:=H.br 101 2;replace H:=H.br 3 1
 refine aM.cut 2 (λq:Bool×Sl×Sl=>[(0,s.v),(2,.pointer (some ⟨b2,0,none⟩)),(5,iv f),(7,.bool q.1),(8,q.2.1.v),(9,q.2.2.v)])
  (λq w'=>∃V4 S Z hs,Sub V3 V4/\Pw mX V4 hs S/\mT S/\S.length<=rs.length/\Z.length<=rs.length/\(∀n∈Z,n<=255)/\kX [] [] rs=(if q.1=true then some (S,Z)else none)/\Rel W V [.row q.2.2 3 1 ((ints Z).flatMap bN),.row q.2.1 101 2 (hs.flatMap lx),.ay b2 (a8 aV) 27] V4 w') ?_ ?_
 ·refine aP (S:=Nat×Sl×Sl×List cv×au×List (Nat×Sl)) al [0,2,5,6,15,17,36,154,159] (λq=>[(7,.bool true),(8,q.2.1.v),(9,q.2.2.1.v),(10,iv q.1)]) (λq w'=>q.1<rs.length/\kX [] [] rs=kX q.2.2.2.1 q.2.2.2.2.1 (rs.drop q.1)/\mT q.2.2.2.1/\q.2.2.2.1.length<=q.1/\q.2.2.2.2.1.length=q.1/\(∀n∈q.2.2.2.2.1,n<=255)/\∃V4,Sub V3 V4/\Pw mX V4 q.2.2.2.2.2 q.2.2.2.1/\Rel W V [.row q.2.2.1 3 1 ((ints q.2.2.2.2.1).flatMap bN),.row q.2.1 101 2 (q.2.2.2.2.2.flatMap lx),.ay b2 (a8 aV) 27] V4 w') (λq _=>rs.length-q.1) (0,⟨none,0,0⟩,⟨none,0,0⟩,[],[],[]) ?_;conv=>whnf
  refine⟨sB,⟨h0l,by rw[lj],by intro s hs;simp at hs,ah,rfl,ah,V3,aS _,Pw.nil,H⟩,?_⟩;clear H;rintro⟨i,lr,zr,S,Z,hs⟩w⟨hi,hH,hok,uv,od,hZ,V4,ar,hP,H⟩;dsimp only at hi hH hok uv od hZ hP H |-;have nk:=bu.trans ar;have hpl:=hP.len;obtain⟨pr,cr⟩:=(hrr.up ar).aR (g:=Sl.v) (λ_=>rfl) (i:=i) aa;have vN:=(HW.all i _ _ (bz aa) (bz hi)).up ar;have vY:=Ec _ (bS hi);have ri:=dk hi;obtain⟨raw,Ee⟩:∃raw,raw=rs[i]:=⟨_,rfl⟩
  obtain⟨rb,UD⟩:∃rb,rb=gs[i]'aa:=⟨_,rfl⟩
  rw[<-Ee,<-UD]at vN;rw[<-Ee]at vY ri;rw[<-UD]at cr;have yx:=vN.len;have cP:=vN.cap;have⟨r5,r6,_⟩:=vY;obtain⟨p0,c0⟩:=vN.aR (g:=bv) (λ_=>rfl) (i:=0) aa;obtain⟨_,c1⟩:=vN.aR (g:=bv) (λ_=>rfl) (i:=1) aa;obtain⟨_,c2⟩:=vN.aR (g:=bv) (λ_=>rfl) (i:=2) aa;obtain⟨_,c3⟩:=vN.aR (g:=bv) (λ_=>rfl) (i:=3) aa;have mG:b8 raw 0=(raw[0]'aa).toNat:=by simp[b8,show 0<raw.length by omega]
  have hb1:b8 raw 1=(raw[1]'aa).toNat:=by simp[b8,show 1<raw.length by omega]
  have hb2:b8 raw 2=(raw[2]'aa).toNat:=by simp[b8,show 2<raw.length by omega]
  have hb3:b8 raw 3=(raw[3]'aa).toNat:=by simp[b8,show 3<raw.length by omega]
  have hat:fB raw=256*(raw[1]'aa).toNat+(raw[2]'aa).toNat:=by unfold fB;rw[hb1,hb2]
  have uH:=vN.sub (n:=1) (λ_=>rfl) (a:=4) (b:=4+b8 raw 0) aa aa;rw[show(raw.take (4+b8 raw 0)).drop 4=jt raw by unfold jt;rw[u4,show 4+b8 raw 0-4=b8 raw 0 by omega]]at uH;have hcl:=O3 vY;obtain⟨n0,hn0⟩:∃n0,n0=b8 raw 0:=⟨_,rfl⟩
  rw[<-hn0]at uH hcl r6;have DY:=hn0;rw[mG]at DY;obtain⟨x0,fJ⟩:∃x,x=raw[0]'aa:=⟨_,rfl⟩
  obtain⟨x1,dO⟩:∃x,x=raw[1]'aa:=⟨_,rfl⟩
  obtain⟨x2,pt⟩:∃x,x=raw[2]'aa:=⟨_,rfl⟩
  obtain⟨x3,Em⟩:∃x,x=raw[3]'aa:=⟨_,rfl⟩
  rw[<-fJ]at c0 DY mG;rw[<-dO,<-pt]at hat;rw[<-dO]at c1;rw[<-pt]at c2;rw[<-Em]at c3 hb3;have l0:=x0.toNat_lt;have l1:=x1.toNat_lt;have l2:=x2.toNat_lt;have l3:=x3.toNat_lt;have aeG:fB raw<65536:=aa;refine wk ?_;refine dV 12 [] [0,1,2,3,4,5,6,7,8,9,10] H ?_;intro w H;refine wk ?_;rw[show 256*(x1.toNat:Int)+(x2.toNat:Int)=((fB raw:Nat):Int)by omega];by_cases vS:i+1=rs.length
  ·rw[ri,fc aa,Hl]at hH;by_cases e1:b8 raw 0=0;rotate_left
   ·rw[ae λq=>e1 q.1]at hH;refine wk ?_;exact⟨(false,lr,zr),sB,V4,S,Z,hs,ar,hP,hok,aa,aa,hZ,(by rw[ae Fe];exact hH),H⟩
   by_cases e2:fB raw=0;rotate_left
   ·rw[ae λq=>e2 q.2.1]at hH;refine wk ?_;exact⟨(false,lr,zr),sB,V4,S,Z,hs,ar,hP,hok,aa,aa,hZ,(by rw[ae Fe];exact hH),H⟩
   by_cases e3:b8 raw 3=1;rotate_left
   ·rw[ae λq=>e3 q.2.2]at hH;rw[hb3]at e3;refine wk ?_;rw[bA (show ¬(x3.toNat:Int)=1 by omega)];exact⟨(false,lr,zr),sB,V4,S,Z,hs,ar,hP,hok,aa,aa,hZ,(by rw[ae Fe];exact hH),H⟩
   rw[ag ⟨e1,e2,e3⟩]at hH;rw[hb3]at e3;refine wk ?_;rw[bw (show(x3.toNat:Int)=1 by omega)];exact⟨(true,lr,zr),sB,V4,S,Z,hs,ar,hP,hok,aa,aa,hZ,(by rw[ag rfl];exact hH),H⟩
  have adW:rs.drop (i+1)≠[]:=by intro q;have:=ax bU q;rw[aU]at this;simp at this;omega
  rw[ri,Hk _ _ _ adW]at hH;have Mr:kX [] [] rs=none->hC l=none:=λh=>by rw[HT,hone,h]
  by_cases d1:b8 raw 0=0
  ·rw[ae λq=>q.2.1 d1]at hH;rw[Mr hH];refine H.wg ?_;intro w H;exact⟨V4,aV,⟨none,0,0⟩,zeroV,[],nk,H.sx,cG _,aA.nil _ _,rfl⟩
  by_cases d2:b8 raw 3=0;rotate_left
  ·rw[ae λq=>d2 q.1]at hH;rw[Mr hH];rw[hb3]at d2;refine H.wg ?_;intro w H;exact⟨V4,aV,⟨none,0,0⟩,zeroV,[],nk,H.sx,cG _,aA.nil _ _,rfl⟩
  by_cases d3:fB raw+b8 raw 0<=65536;rotate_left
  ·rw[ae λq=>d3 q.2.2]at hH;rw[Mr hH];rw[hb3]at d2;refine H.wg ?_;intro w H;exact⟨V4,aV,⟨none,0,0⟩,zeroV,[],nk,H.sx,cG _,aA.nil _ _,rfl⟩
  rw[ag ⟨d2,d1,d3⟩,<-hn0]at hH;rw[hb3]at d2;have uy:jt raw≠[]:=by intro q;rw[q]at hcl;simp at hcl;omega
  have A9:=Pt (a:=fB raw) hok uy aa;obtain⟨_,amQ⟩:=QG (fB raw) (jt raw) S;have fu:=H.dW (i:=1) rfl (λ_=>rfl) ai;have NA:((4:Int)+(x0.toNat:Int)).toNat=4+n0:=aa;rcases uZ S with Hv|⟨P,y,Hv⟩
  ·subst Hv;have Tj:hs=[]:=dt (by rw[hpl];rfl);subst Tj;rw[aK]at fu;refine wk ?_;refine dV 19 [] [0,1,2,3,4,5,6,7,8,9,10,11,12,13,14,15,16,17] H ?_;intro w H;refine wk ?_;rw[NA];refine(C3 H.data uH aa).use ?_;rintro v w⟨r5,rfl,K⟩;replace H:=H.cq K;obtain⟨V5,aN,H,jU⟩:=Rel.aJ H;refine H.wg ?_;intro _ w H;refine Rel.eH (f:=lx) (l:=[]) (x:=(fB raw,r5)) rfl (λ_=>rfl) (by simp[Value.oneCell']) H (by show(([]:List (Nat×Sl)).length+1)*32<=_;simp only[aK];omega) (by simp only[aK];omega) ?_;intro NS w H;refine H.wg ?_;intro _ w H;refine Rel.bF (f:=bN) (l:=ints Z) (x:=(x0.toNat:Int)) rfl (λ_=>rfl) (by simp[Value.oneCell']) H (by show((ints Z).length+1)*8<=_;rw[aW];omega) (by rw[aW];omega) ?_;intro Gb w H;rw[show ints Z++[(x0.toNat:Int)]=ints (Z++[n0])by simp[DY]]at H;refine wk ?_;refine⟨sB,(i+1,NS,Gb,na (fB raw) (jt raw) [],Z++[n0],[]++[(fB raw,r5)]),sB,⟨by dsimp only;omega,hH,A9,by dsimp only;omega,by simp;omega,λn hn=>?_,V5,ar.trans aN,?_,H⟩,by dsimp only;omega⟩
   ·rcases cc.1 hn with hn|hn
    ·exact hZ n hn
    obtain rfl:=cz.1 hn;omega
   exact Pw.nil.snoc ⟨rfl,jU⟩
  rw[Fc]at Hv;subst Hv;obtain⟨hP',h,rfl,vK,hRh⟩:=ahO hP;obtain⟨hx,yB⟩:=h;obtain⟨x,d⟩:=y;obtain⟨uK,hby⟩:=hRh;dsimp only at uK hby;subst uK;have Nz:=hok (hx,d) ah;dsimp only at Nz;have hbn:=hby.len;have hpn:=vK.len;rw[ak,bT]at fu uv hpl;have eI:(((lr.len:Nat):Int)-1).toNat=hP'.length:=aa;have gl:(hP'++[(hx,yB)])[hP'.length]'(by simp)=(hx,yB):=ah;have am5:Plain lr.a:=((H.cV (i:=1) rfl (λ_=>rfl) ai).fF (g:=λh:Nat×Sl=>iv (h.1:Int)) (g':=λh:Nat×Sl=>h.2.v) (λ_=>rfl) (i:=hP'.length) ah).1;refine wk ?_;refine dV 19 [] [0,1,2,3,4,5,6,7,8,9,10,11,12,13,14,15,16,17] H ?_;intro w H;refine wk ?_;rw[eI];obtain⟨_,u1,u2⟩:=(H.cV (i:=1) rfl (λ_=>rfl) ai).fF (g:=λh:Nat×Sl=>iv (h.1:Int)) (g':=λh:Nat×Sl=>h.2.v) (λ_=>rfl) (i:=hP'.length) ah;rw[gl]at u1 u2;dsimp only at u1 u2;refine⟨_,u1,?_⟩;refine wk ?_;rw[eI];obtain⟨_,u1,u2⟩:=(H.cV (i:=1) rfl (λ_=>rfl) ai).fF (g:=λh:Nat×Sl=>iv (h.1:Int)) (g':=λh:Nat×Sl=>h.2.v) (λ_=>rfl) (i:=hP'.length) ah;rw[gl]at u1 u2;dsimp only at u1 u2;refine⟨_,u2,?_⟩;by_cases he:hx+d.length=fB raw
  ·refine wk ?_;refine dV 20 [] [0,1,2,3,4,5,6,7,8,9,10,11,12,13,14] H ?_;intro w H;refine wk ?_;rw[eI];obtain⟨_,u1,u2⟩:=(H.cV (i:=1) rfl (λ_=>rfl) ai).fF (g:=λh:Nat×Sl=>iv (h.1:Int)) (g':=λh:Nat×Sl=>h.2.v) (λ_=>rfl) (i:=hP'.length) ah;rw[gl]at u1 u2;dsimp only at u1 u2;refine⟨_,u2,?_⟩;refine wk ?_;rw[NA];refine(lf H.data hby uH aa).use ?_;rintro v w⟨r5,rfl,K⟩;replace H:=H.cq K;obtain⟨V5,aN,H,jU⟩:=Rel.aJ H;refine wk ?_;rw[eI];refine Rel.Yp (i:=1) H rfl (hP'.length*2+1) aa rfl rfl ?_;intro w H;simp only[bH,List.set_cons_succ]at H;rw[show((hP'++[(hx,yB)]).flatMap lx).set (hP'.length*2+1) r5.v=(hP'++[(hx,r5)]).flatMap lx from X5 hP' hx yB r5]at H;refine H.wg ?_;intro _ w H;refine Rel.bF (f:=bN) (l:=ints Z) (x:=(x0.toNat:Int)) rfl (λ_=>rfl) (by simp[Value.oneCell']) H (by show((ints Z).length+1)*8<=_;rw[aW];omega) (by rw[aW];omega) ?_;intro Gb w H;rw[show ints Z++[(x0.toNat:Int)]=ints (Z++[n0])by simp[DY]]at H;refine wk ?_;refine⟨sB,(i+1,lr,Gb,na (fB raw) (jt raw) (P++[(hx,d)]),Z++[n0],hP'++[(hx,r5)]),sB,⟨by dsimp only;omega,hH,A9,by dsimp only;omega,by simp;omega,λn hn=>?_,V5,ar.trans aN,?_,H⟩,by dsimp only;omega⟩
   ·rcases cc.1 hn with hn|hn
    ·exact hZ n hn
    obtain rfl:=cz.1 hn;omega
   dsimp only;rw[xi,ag he];exact(vK.up mX.up aN).snoc ⟨rfl,jU⟩
  refine wk ?_;rw[NA];refine(C3 H.data uH aa).use ?_;rintro v w⟨r5,rfl,K⟩;replace H:=H.cq K;obtain⟨V5,aN,H,jU⟩:=Rel.aJ H;refine H.wg ?_;intro _ w H;refine Rel.eH (f:=lx) (l:=(hP'++[(hx,yB)])) (x:=(fB raw,r5)) rfl (λ_=>rfl) (by simp[Value.oneCell']) H (by show(((hP'++[(hx,yB)]):List (Nat×Sl)).length+1)*32<=_;simp only[ak,bT];omega) (by simp only[ak,bT];omega) ?_;intro NS w H;refine H.wg ?_;intro _ w H;refine Rel.bF (f:=bN) (l:=ints Z) (x:=(x0.toNat:Int)) rfl (λ_=>rfl) (by simp[Value.oneCell']) H (by show((ints Z).length+1)*8<=_;rw[aW];omega) (by rw[aW];omega) ?_;intro Gb w H;rw[show ints Z++[(x0.toNat:Int)]=ints (Z++[n0])by simp[DY]]at H;refine wk ?_;refine⟨sB,(i+1,NS,Gb,na (fB raw) (jt raw) (P++[(hx,d)]),Z++[n0],(hP'++[(hx,yB)])++[(fB raw,r5)]),sB,⟨by dsimp only;omega,hH,A9,by dsimp only;omega,by simp;omega,λn hn=>?_,V5,ar.trans aN,?_,H⟩,by dsimp only;omega⟩
  ·rcases cc.1 hn with hn|hn
   ·exact hZ n hn
   obtain rfl:=cz.1 hn;omega
  dsimp only;rw[xi,ae he];exact(hP.up mX.up aN).snoc ⟨rfl,jU⟩
 clear H;rintro⟨k,lr,zr⟩w⟨V4,S,Z,hs,ar,hP,hok,uv,od,hZ,hH,H⟩;dsimp only at hH H |-;have hd:∀x∈S,x.2.length<=65536:=λx hx=>by have:=hok x hx;omega
 obtain⟨V5,aN,H,hz⟩:=Rel.aJ H;obtain⟨V6,bC,H,hg⟩:=Rel.aJ H;have adH:=(bu.trans ar).trans (aN.trans bC);have hseg:oU V6 lr S:=⟨hs,hg,(hP.up mX.up aN).up mX.up bC⟩
 have hB:=Qi hok aa;refine wk ?_;refine(ahB H.data hseg aa).use ?_;rintro v w⟨V7,h,fH,K,rfl,hv⟩;replace H:=H.bd K;refine H.wn ?_;intro w pV H;have o9:=adH.trans fH;cases k with
 | false =>
  rw[ae ai]at hH;have e:hC l=none:=by rw[HT,hone,hH]
  rw[e];refine H.wg ?_;intro _ w H;exact⟨V7,aV,⟨none,0,0⟩,zeroV,[],o9,H.sx,cG _,aA.nil _ _,rfl⟩
 | true =>
  rw[ag rfl]at hH;refine H.wg ?_;intro w H;refine(w9 H.data hv hB).use ?_;rintro v w⟨rfl,K⟩;replace H:=H.bd K;by_cases hvf:(ct (kJ S)).1=0;rotate_left
  ·have e:hC l=none:=by rw[HT,hone,hH];simp only;rw[ae hvf]
   rw[e];refine H.wg ?_;intro w H;exact⟨V7,aV,⟨none,0,0⟩,zeroV,[],o9,H.sx,cG _,aA.nil _ _,rfl⟩
  have e:hC l=some (kJ S,iD f (jd S Z)):=by rw[HT,hone,hH];simp only;rw[ag hvf]
  rw[e];refine wk ?_;refine(alX H.data (hseg.up fH) aa hok).use ?_;rintro v w⟨ur,rfl,K⟩;replace H:=H.cq K;obtain⟨V8,l5,H,hur⟩:=Rel.aJ H;have UZ:=((hz.up bC).up fH).up l5;have Dz:=o9.trans l5;refine wk ?_;refine(afc H.data UZ hur (by rw[aW];omega)).use ?_;rintro v w⟨rfl,K⟩;replace H:=H.bd K;by_cases he:Z=gv S
  ·rw[bw (Ij.2 he)];have e2:jd S Z=[]:=by unfold jd;rw[ag he]
   rw[e2];refine wk ?_;refine dV 28 [3] [0,1,2,3,4,5,6] H ?_;intro w H;refine wk ?_;refine(YD (fl:=f) (Z:=[]) (s:=⟨none,0,0⟩) H.data aa (aA.nil _ _) ah ah).use ?_;rintro v w⟨V9,r9,jC,K,rfl,pn⟩;replace H:=H.bd K;refine H.wg ?_;intro w H;exact⟨V9,h,r9,kJ S,_,Dz.trans jC,H.sx,(hv.up l5).up jC,pn,rfl,rfl⟩
  rw[bA (λq=>he (Ij.1 q))];have e2:jd S Z=Z:=by unfold jd;rw[ae he]
  rw[e2];refine wk ?_;refine dV 28 [3] [0,1,2,3,4,5,6] H ?_;intro w H;refine wk ?_;refine(YD (fl:=f) H.data aa UZ aa hZ).use ?_;rintro v w⟨V9,r9,jC,K,rfl,pn⟩;replace H:=H.bd K;refine H.wg ?_;intro w H;exact⟨V9,h,r9,kJ S,_,Dz.trans jC,H.sx,(hv.up l5).up jC,pn,rfl,rfl⟩
theorem JW(hV:Sub V W){fl:Nat}(hf:fl<1000){s:Sl}{Z:au}(hs:aA bN V s (nz Z))(od:Z.length<=1000)(hZ:∀n∈Z,n<=1000):aB 94 [iv (fl:Int),s.v] W λv w'=>∃(V':ad) (r:Sl),Sub V V'/\Rel W V [] V' w'/\v=r.v/\aF V' r (lA fl Z):=by
 have H:=aG hV;have fu:=hs.len;rw[aW]at fu;refine eV Tryz.func94 34 [0,1,4,5,6,13,23] ?_;by_cases h0:fl=0/\Z=[]
 ·have e:lA fl Z=[]:=by unfold lA;rw[ag h0]
  obtain⟨h1,h2⟩:=h0;have h3:Z.length=0:=by rw[h2];rfl
  rw[e];refine wk ?_;exact⟨V,⟨none,0,0⟩,aS _,H.sx,rfl,aA.nil _ _⟩
 have e:lA fl Z=az fl++cm az (nz Z):=by unfold lA;rw[ae h0]
 rw[e];have hpl:=Ow (Z:=Z) od hZ;have hpn:=dq (n:=(fl:Int)) aa aa;have hpz:=dq (n:=(Z.length:Int)) aa aa;have dK:(nz Z).length=Z.length:=ah;by_cases h1:fl=0
 ·have h3:Z.length≠0:=λq=>h0 ⟨h1,dt q⟩;refine wk ?_;refine(iR (n:=(fl:Int)) H.data (by constructor<;>omega)).use ?_;rintro v w⟨r1,rfl,K⟩;replace H:=Rel.call H K;simp only[aZ]at H;obtain⟨V2,hV2,H,hr1⟩:=Rel.aJ H;refine wk ?_;rw[fu];refine(iR (n:=(Z.length:Int)) H.data (by constructor<;>omega)).use ?_;rintro v w⟨r2,rfl,K⟩;replace H:=Rel.call H K;simp only[aZ]at H;obtain⟨V3,aw,H,hr2⟩:=Rel.aJ H;refine wk ?_;refine(lf H.data (hr1.up aw) hr2 aa).use ?_;rintro v w⟨r3,rfl,K⟩;replace H:=Rel.call H K;simp only[aZ]at H;have bu:=hV2.trans aw;refine wk ?_;refine aP (S:=Nat×Sl) al [0,1,4,13] (λq=>[(5,q.2.v),(6,iv q.1)]) (λq w'=>q.1<=Z.length/\Rel W V [.row q.2 5 1 ((az fl++az Z.length++((nz Z).take q.1).flatMap az).flatMap aI)] V3 w') (λq _=>Z.length-q.1) (0,r3) ?_;conv=>whnf
  refine⟨sB,⟨aa,by rw[kM,eL,aZ];exact H⟩,?_⟩;clear H;rintro⟨k,r⟩w⟨hk,H⟩;dsimp only at hk H |-;by_cases hlt:k<Z.length
  ·have gP:k<(nz Z).length:=aa;obtain⟨p0,c0⟩:=(hs.up bu).aR (g:=iv) (λ_=>rfl) gP;have ht:=bK gP;obtain⟨z,hz⟩:∃z,z=(nz Z)[k]:=⟨_,rfl⟩
   have NB:0<=z/\z<=1000:=by obtain⟨n,hn,e⟩:=cJ.1 (show z∈nz Z by rw[hz];exact bS gP);have:=hZ n hn;omega
   rw[<-hz]at c0 ht;have hfl:(((nz Z).take k).flatMap az).length+(az z).length<=((nz Z).flatMap az).length:=by have:=vD (enc:=az) gP;rw[<-hz]at this;exact this
   unfold cm at hpl;rw[ak]at hpl;refine wk ?_;refine(iR (n:=z) H.data (by constructor<;>omega)).use ?_;rintro v w⟨rz,rfl,K⟩;replace H:=H.cq K;refine wk ?_;refine Rel.eB H (i:=0) rfl (by simp only[ak];omega) ?_;intro rn w H;simp only[bH]at H;rw[show az (fl:Int)++az (Z.length:Int)++((nz Z).take k).flatMap az++az z=az (fl:Int)++az (Z.length:Int)++((nz Z).take (k+1)).flatMap az by rw[ht,cw,bj];simp]at H;refine wk ?_;exact⟨sB,(k+1,rn),sB,⟨by dsimp only;omega,H⟩,by dsimp only;omega⟩
  obtain rfl:k=Z.length:=aa;rw[bJ aa]at H;rw[show az (fl:Int)++az (Z.length:Int)++(nz Z).flatMap az=az (fl:Int)++cm az (nz Z)by unfold cm;rw[dK,bj]]at H;obtain⟨V4,ar,H,hr⟩:=Rel.aJ H;refine wk ?_;exact⟨V4,r,bu.trans ar,H.sx,rfl,hr⟩
 refine wk ?_;refine(iR (n:=(fl:Int)) H.data (by constructor<;>omega)).use ?_;rintro v w⟨r1,rfl,K⟩;replace H:=Rel.call H K;simp only[aZ]at H;obtain⟨V2,hV2,H,hr1⟩:=Rel.aJ H;refine wk ?_;rw[fu];refine(iR (n:=(Z.length:Int)) H.data (by constructor<;>omega)).use ?_;rintro v w⟨r2,rfl,K⟩;replace H:=Rel.call H K;simp only[aZ]at H;obtain⟨V3,aw,H,hr2⟩:=Rel.aJ H;refine wk ?_;refine(lf H.data (hr1.up aw) hr2 aa).use ?_;rintro v w⟨r3,rfl,K⟩;replace H:=Rel.call H K;simp only[aZ]at H;have bu:=hV2.trans aw;refine wk ?_;refine aP (S:=Nat×Sl) al [0,1,4,13] (λq=>[(5,q.2.v),(6,iv q.1)]) (λq w'=>q.1<=Z.length/\Rel W V [.row q.2 5 1 ((az fl++az Z.length++((nz Z).take q.1).flatMap az).flatMap aI)] V3 w') (λq _=>Z.length-q.1) (0,r3) ?_;conv=>whnf
 refine⟨sB,⟨aa,by rw[kM,eL,aZ];exact H⟩,?_⟩;clear H;rintro⟨k,r⟩w⟨hk,H⟩;dsimp only at hk H |-;by_cases hlt:k<Z.length
 ·have gP:k<(nz Z).length:=aa;obtain⟨p0,c0⟩:=(hs.up bu).aR (g:=iv) (λ_=>rfl) gP;have ht:=bK gP;obtain⟨z,hz⟩:∃z,z=(nz Z)[k]:=⟨_,rfl⟩
  have NB:0<=z/\z<=1000:=by obtain⟨n,hn,e⟩:=cJ.1 (show z∈nz Z by rw[hz];exact bS gP);have:=hZ n hn;omega
  rw[<-hz]at c0 ht;have hfl:(((nz Z).take k).flatMap az).length+(az z).length<=((nz Z).flatMap az).length:=by have:=vD (enc:=az) gP;rw[<-hz]at this;exact this
  unfold cm at hpl;rw[ak]at hpl;refine wk ?_;refine(iR (n:=z) H.data (by constructor<;>omega)).use ?_;rintro v w⟨rz,rfl,K⟩;replace H:=H.cq K;refine wk ?_;refine Rel.eB H (i:=0) rfl (by simp only[ak];omega) ?_;intro rn w H;simp only[bH]at H;rw[show az (fl:Int)++az (Z.length:Int)++((nz Z).take k).flatMap az++az z=az (fl:Int)++az (Z.length:Int)++((nz Z).take (k+1)).flatMap az by rw[ht,cw,bj];simp]at H;refine wk ?_;exact⟨sB,(k+1,rn),sB,⟨by dsimp only;omega,H⟩,by dsimp only;omega⟩
 obtain rfl:k=Z.length:=aa;rw[bJ aa]at H;rw[show az (fl:Int)++az (Z.length:Int)++(nz Z).flatMap az=az (fl:Int)++cm az (nz Z)by unfold cm;rw[dK,bj]]at H;obtain⟨V4,ar,H,hr⟩:=Rel.aJ H;refine wk ?_;exact⟨V4,r,bu.trans ar,H.sx,rfl,hr⟩
theorem I2(hV:Sub V W){rs:Sl}{T:pT}(hs:qT V rs T)(hl:T.length<=100000)(hrl:∀r∈T,r.length<=100000):aB 97 [rs.v] W λv w'=>∃(V':ad) (h:VH),Sub V V'/\Rel W V [] V' w'/\v=gw h/\cb V' h (mm T):=by
 have H:=aG hV;have hlen:=hs.len;obtain⟨xs,h1,h2⟩:=hs;have L5:=h2.len;refine eV Tryz.func97 44 [0,2,3,4,5,6,11,21] ?_;refine H.wn ?_;intro w b2 H;refine H.wn ?_;intro w b3 H;refine H.wg ?_;intro w H;replace H:=H.br 27 5;refine aP (S:=Nat×Sl×List VH) al [0,2,3] (λz=>[(4,iv z.1)]) (λz w'=>z.1<=T.length/\∃V2,Sub V V2/\Pw Ab V2 z.2.2 (T.take z.1)/\Rel W V [.row z.2.1 27 5 (z.2.2.flatMap a8),.ay b3 [iv 3,iv 0,.slice none 0 0,.slice none 0 0,z.2.1.v] 27,.ay b2 (a8 aV) 27] V2 w') (λz _=>T.length-z.1) (0,⟨none,0,0⟩,[]) ?_;conv=>whnf
 refine⟨sB,⟨aa,V,aS _,Pw.nil,H⟩,?_⟩;clear H;rintro⟨i,pr,hh⟩w⟨hi,V2,hV2,hP,H⟩;dsimp only at hi hP H |-;have Me:=hP.len;rw[bg]at Me;by_cases hlt:i<T.length;rotate_left
 ·obtain rfl:i=T.length:=aa;rw[fA]at hP;refine H.wg ?_;intro w H;obtain⟨V3,aw,H,hr⟩:=Rel.aJ H;exact⟨V3,⟨3,0,⟨none,0,0⟩,⟨none,0,0⟩,pr⟩,hV2.trans aw,H.sx,rfl,YK hr (hP.up JE aw)⟩
 obtain⟨p0,c0⟩:=(h1.up hV2).aR (g:=λx:Sl=>x.v) (λ_=>rfl) (i:=i) aa;obtain⟨gs,g1,g2⟩:=h2.all i (xs[i]'aa) T[i] (bz _) (bz _);have ht:=bK hlt;obtain⟨r,hr⟩:∃r,r=T[i]:=⟨_,rfl⟩
 obtain⟨x,hx⟩:∃x,x=xs[i]'aa:=⟨_,rfl⟩
 have UF:=hrl r (by rw[hr];exact bS hlt);rw[<-hr]at g2 ht;rw[<-hx]at c0 g1;have LQ:=g1.len;have LR:=g2.len;refine H.wn ?_;intro w b5 H;refine H.wg ?_;intro w H;replace H:=H.br 27 5;refine aP (S:=Nat×Sl) al [0,2,3,4,5,11] (λz=>[(6,iv z.1)]) (λz w'=>z.1<=r.length/\Rel W V [.row z.2 27 5 (((gs.take z.1).map ft).flatMap a8),.ay b5 [iv 3,iv 0,.slice none 0 0,.slice none 0 0,z.2.v] 27,.row pr 27 5 (hh.flatMap a8),.ay b3 [iv 3,iv 0,.slice none 0 0,.slice none 0 0,pr.v] 27,.ay b2 (a8 aV) 27] V2 w') (λz _=>r.length-z.1) (0,⟨none,0,0⟩) ?_;conv=>whnf
 refine⟨sB,⟨aa,H⟩,?_⟩;clear H;rintro⟨j,p2⟩w⟨hj,H⟩;dsimp only at hj H |-;by_cases qf:j<r.length
 ·obtain⟨p1,c1⟩:=(g1.up hV2).aR (g:=λx:Sl=>x.v) (λ_=>rfl) (i:=j) aa;obtain⟨g,hg⟩:∃g,g=gs[j]'aa:=⟨_,rfl⟩
  have DU:=bK (l:=gs) (i:=j) aa;rw[<-hg]at c1 DU;have jS:((gs.take j).map ft).length=j:=by rw[aW,bg];omega
  refine wk ?_;refine dV 9 [10] [0,1,2,3,4,5,6,7,8,9,10,11,12,13] H ?_;intro w H;refine H.wg ?_;intro _ w H;refine Rel.bF (f:=a8) (s:=p2) (l:=(gs.take j).map ft) (x:=ft g) rfl (λ_=>rfl) (by simp[Value.oneCell']) H (by rw[jS];show(j+1)*88<=_;omega) (by rw[jS];omega) ?_;intro p3 w H;rw[show(gs.take j).map ft++[ft g]=(gs.take (j+1)).map ft by rw[DU,dU];rfl]at H;refine H.wg ?_;intro w H;exact⟨sB,(j+1,p3),sB,⟨by dsimp only;omega,H⟩,by dsimp only;omega⟩
 rw[bJ aa]at H;obtain⟨V3,aw,H,iz⟩:=Rel.aJ H;have c2:=aw.cell c0;refine H.wn ?_;intro w b40 H;refine wk ?_;refine Rel.eH (f:=a8) (s:=pr) (l:=hh) (x:=⟨3,0,⟨none,0,0⟩,⟨none,0,0⟩,p2⟩) rfl (λ_=>rfl) (by simp[Value.oneCell']) H (by show(hh.length+1)*88<=_;omega) aa ?_;intro Ou w H;refine H.wg ?_;intro w H;refine⟨sB,(i+1,Ou,hh++[⟨3,0,⟨none,0,0⟩,⟨none,0,0⟩,p2⟩]),sB,⟨by dsimp only;omega,V3,hV2.trans aw,?_,H.sx⟩,by dsimp only;omega⟩;dsimp only;rw[ht];exact(hP.up JE aw).snoc (XK iz (g2.up (λ_ _ _ _ k h=>h.up k) (hV2.trans aw)))
theorem Xy(h:c≠34):eM (c::t)=rU [c] (eM t):=by
 cases t with
 | nil =>unfold eM;rw[ae h];rfl
 | cons d t=>exact Jr h
theorem XA{r:ab}(hr:r.head?≠some 34):eM (34::r)=some ([],r):=Xw (a:=[]) rfl hr
theorem XB(r:ab):eM (34::34::r)=rU [34] (eM r):=Js (a:=[]) rfl
theorem YV(s c:UInt8):lT s c=(decide (c.toNat=s.toNat)||decide (c.toNat=34)||decide (c.toNat=13)||decide (c.toNat=10)):=by have e:∀d:UInt8,decide (c=d)=decide (c.toNat=d.toNat):=λd=>decide_eq_decide.2 ⟨λh=>by rw[h],λh=>bL.1 h⟩;unfold lT;rw[e s,e 34,e 13,e 10];rfl
theorem ajY(hV:Sub V W){n:Nat}(hn:n<3):aB 96 [iv (n:Nat)] W λv w'=>v=bv (aY n)/\Rel W V [] V w':=by
 have H:=aG hV;refine eV Tryz.func96 9 [0,2,3] ?_;have hn3:n=0\/n=1\/n=2:=aa;rcases hn3 with rfl|rfl|rfl
 all_goals
  refine H.wn ?_;intro w b1 H;refine wk ?_;first|exact H.sx|exact⟨rfl,H.sx⟩
theorem agy(hV:Sub V W){s:Sl}{l:ab}(hs:aF V s l)(hl:l.length<=1099511627776)(c:UInt8):aB 114 [s.v,bv c] W λv w'=>v=.bool (eR c l)/\Rel W V [] V w':=by
 have H:=aG hV;have hlen:=hs.len;refine eV Tryz.func114 39 [0,1,4,5,9,38] ?_;refine wk ?_;refine aP (S:=Nat) al [0,1] (λj=>[(5,iv j)]) (λj w'=>j<=l.length/\eR c (l.take j)=false/\Rel W V [] V w') (λj _=>l.length-j) 0 ?_;conv=>whnf
 refine⟨sB,⟨aa,rfl,H⟩,?_⟩;clear H;rintro j w⟨hj,hno,H⟩;by_cases qf:j<l.length;rotate_left
 ·rw[bJ aa]at hno;rw[hno];refine wk ?_;first|exact H.sx|exact⟨rfl,H.sx⟩
 obtain⟨p0,c0⟩:=hs.aR (g:=bv) (λ_=>rfl) qf;obtain⟨x,hx⟩:∃x,x=l[j]:=⟨_,rfl⟩
 rw[<-hx]at c0;have rJ:=x.toNat_lt;have hts:=YV c x;have hyes:lT c x=true->eR c l=true:=λh=>by unfold eR;rw[List.any_eq_true];exact⟨x,by rw[hx];exact bS qf,h⟩
 by_cases e1:x.toNat=c.toNat
 ·rw[hyes (by rw[hts,bw e1];rfl)];refine wk ?_;first|exact H.sx|exact⟨rfl,H.sx⟩
 by_cases e2:x.toNat=34
 ·rw[hyes (by rw[hts,bw e2];simp)];refine wk ?_;first|exact H.sx|exact⟨rfl,H.sx⟩
 by_cases e3:x.toNat=13
 ·rw[hyes (by rw[hts,bw e3];simp)];refine wk ?_;first|exact H.sx|exact⟨rfl,H.sx⟩
 by_cases e4:x.toNat=10
 ·rw[hyes (by rw[hts,bw e4];simp)];refine wk ?_;first|exact H.sx|exact⟨rfl,H.sx⟩
 refine wk ?_;exact⟨sB,j+1,sB,⟨aa,JV qf hno (by rw[<-hx,hts];simp[e1,e2,e3,e4]),H.sx⟩,aa⟩
structure ZT(W V:ad)(l:ab)(o:Option (bQ×ab))(v:aj)(w':ad):Prop where
 ex:∃(V':ad) (c:Sl) (f g:Bool) (p:Nat),Sub V V'/\Rel W V [] V' w'/\v=.tuple #[c.v,.bool f,iv (p:Nat),.bool g]/\(match o with
  | none=>g=false
  | some x=>g=true/\f=x.1.2/\aF V' c x.1.1/\p<=l.length/\l.drop p=x.2)
theorem abg(hV:Sub V W){s:Sl}{l:ab}(hs:aF V s l)(hl:l.length<=1000000){a:Nat}(ha:a<=l.length){c:UInt8}(hc:c.toNat<128)(hc34:c≠34):aB 175 [s.v,iv (a:Nat),bv c] W (ZT W V l (kO c (l.drop a))):=by
 have H:=aG hV;have hlen:=hs.len;have uy:c.toNat≠34:=λh=>hc34 (bL.1 h);refine eV Tryz.func175 106 [0,1,2,6,7,8,9,10,11,22,48,53,70,77,97] ?_;by_cases hh:(l.drop a).head?=some 34;rotate_left
 ·have hrd:∀p,a<=p->p<=l.length->eR c ((l.drop a).take (p-a))=false->(l.drop p=[]\/∃h r,l.drop p=h::r/\lT c h=true)->kO c (l.drop a)=if(l.drop p).head?=some 34 then none else some (((l.drop a).take (p-a),false),l.drop p):=λp h1 h2 h3 h4=>by
   have e:l.drop a=(l.drop a).take (p-a)++l.drop p:=by
    conv=>lhs;rw[<-List.take_append_drop (p-a) (l.drop a),gK]
    congr 2;omega
   have ht:=J1 h3 h4;rw[<-e]at ht;unfold kO;rw[ae hh,ht]
  by_cases DB:a<l.length
  ·obtain⟨pa,ca⟩:=hs.aR (g:=bv) (λ_=>rfl) DB;obtain⟨xa,yK⟩:∃x,x=l[a]:=⟨_,rfl⟩
   rw[<-yK]at ca;have ani:xa.toNat≠34:=λdy=>by apply hh;rw[dk DB,gJ,<-yK];congr 1;exact bL.1 (by rw[dy];rfl)
   refine wk ?_;replace H:=H.br 5 1;refine aP (S:=Nat×Sl) al [0,2,11,22,70,77,97] (λz=>[(1,iv z.1),(10,z.2.v)]) (λz w'=>a<=z.1/\z.1<=l.length/\eR c ((l.drop a).take (z.1-a))=false/\Rel W V [.row z.2 5 1 (((l.drop a).take (z.1-a)).flatMap aI)] V w') (λz _=>l.length-z.1) (a,⟨none,0,0⟩) ?_;conv=>whnf
   refine⟨sB,⟨aQ _,ha,by rw[Jf];rfl,by rw[Jf];exact H⟩,?_⟩;clear H;rintro⟨p,cs⟩w⟨lL,iz,hno,H⟩;dsimp only at lL iz hno H |-;by_cases hpl:p<l.length;rotate_left
   ·rw[hrd p lL iz hno (.inl (fc aa)),ae (by rw[fc aa];decide)];obtain⟨V2,hV2,H,hr⟩:=Rel.aJ H;try(have c2:=hV2.cell c0)
    try(have c3:=hV2.cell c1)
    refine wk ?_;exact⟨V2,cs,false,true,p,hV2,H.sx,rfl,rfl,rfl,hr,iz,rfl⟩
   obtain⟨p0,c0⟩:=hs.aR (g:=bv) (λ_=>rfl) hpl;obtain⟨x,hx⟩:∃x,x=l[p]:=⟨_,rfl⟩
   rw[<-hx]at c0;have rJ:=x.toNat_lt;have dv:l.drop p=x::l.drop (p+1):=by rw[hx];exact dk hpl
   have hts:=YV c x;have stop:lT c x=true->kO c (l.drop a)=if(l.drop p).head?=some 34 then none else some (((l.drop a).take (p-a),false),l.drop p):=λh=>hrd p lL iz hno (.inr ⟨x,_,dv,h⟩)
   have n34:x.toNat≠34->¬(l.drop p).head?=some 34:=λh k=>h (by rw[dv,gJ]at k;cases k;rfl);by_cases e1:x.toNat=c.toNat
   ·rw[stop (by rw[hts,bw e1];rfl),ae (n34 aa)];obtain⟨V2,hV2,H,hr⟩:=Rel.aJ H;try(have c2:=hV2.cell c0)
    try(have c3:=hV2.cell c1)
    refine wk ?_;exact⟨V2,cs,false,true,p,hV2,H.sx,rfl,rfl,rfl,hr,iz,rfl⟩
   by_cases e2:x.toNat=34
   ·rw[stop (by rw[hts,bw e2];simp),ag (by rw[dv,gJ];congr 1;exact bL.1 (by rw[e2];rfl))];refine wk ?_;exact⟨V,⟨none,0,0⟩,false,false,0,aS _,H.sx,rfl,rfl⟩
   by_cases e3:x.toNat=13
   ·rw[stop (by rw[hts,bw e3];simp),ae (n34 e2)];obtain⟨V2,hV2,H,hr⟩:=Rel.aJ H;try(have c2:=hV2.cell c0)
    try(have c3:=hV2.cell c1)
    refine wk ?_;exact⟨V2,cs,false,true,p,hV2,H.sx,rfl,rfl,rfl,hr,iz,rfl⟩
   by_cases e4:x.toNat=10
   ·rw[stop (by rw[hts,bw e4];simp),ae (n34 e2)];obtain⟨V2,hV2,H,hr⟩:=Rel.aJ H;try(have c2:=hV2.cell c0)
    try(have c3:=hV2.cell c1)
    refine wk ?_;exact⟨V2,cs,false,true,p,hV2,H.sx,rfl,rfl,rfl,hr,iz,rfl⟩
   have jV:(l.drop a).take (p-a)++[x]=(l.drop a).take (p+1-a):=by rw[show p+1-a=(p-a)+1 by omega,bK (by rw[aU];omega),List.getElem_drop];congr 2;rw[hx];congr 1;omega
   have gk:((l.drop a).take (p-a)).length=p-a:=by rw[bg,aU];omega
   have A8:eR c ((l.drop a).take (p+1-a))=false:=by rw[<-jV];unfold eR at hno |-;rw[List.any_append,hno];simp[hts,e1,e2,e3,e4]
   refine H.wn ?_;intro w b1 H;refine wk ?_;refine Rel.bF (f:=aI) (s:=cs) (l:=(l.drop a).take (p-a)) (x:=x) rfl (λ_=>rfl) (by simp[Value.oneCell']) H (by rw[gk];show(_+1)*1<=_;omega) (by rw[gk];omega) ?_;intro dE w H;rw[jV]at H;refine wk ?_;exact⟨sB,(p+1,dE),sB,⟨by dsimp only;omega,by dsimp only;omega,A8,H.sx⟩,by dsimp only;omega⟩
  have vM:a=l.length:=aa;refine wk ?_;replace H:=H.br 5 1;refine aP (S:=Nat×Sl) al [0,2,11,22,70,77,97] (λz=>[(1,iv z.1),(10,z.2.v)]) (λz w'=>a<=z.1/\z.1<=l.length/\eR c ((l.drop a).take (z.1-a))=false/\Rel W V [.row z.2 5 1 (((l.drop a).take (z.1-a)).flatMap aI)] V w') (λz _=>l.length-z.1) (a,⟨none,0,0⟩) ?_;conv=>whnf
  refine⟨sB,⟨aQ _,ha,by rw[Jf];rfl,by rw[Jf];exact H⟩,?_⟩;clear H;rintro⟨p,cs⟩w⟨lL,iz,hno,H⟩;dsimp only at lL iz hno H |-;by_cases hpl:p<l.length;rotate_left
  ·rw[hrd p lL iz hno (.inl (fc aa)),ae (by rw[fc aa];decide)];obtain⟨V2,hV2,H,hr⟩:=Rel.aJ H;try(have c2:=hV2.cell c0)
   try(have c3:=hV2.cell c1)
   refine wk ?_;exact⟨V2,cs,false,true,p,hV2,H.sx,rfl,rfl,rfl,hr,iz,rfl⟩
  omega
 have DB:a<l.length:=by
  cases hd:l.drop a with
  | nil=>rw[hd]at hh;cases hh
  | cons x t =>have:=ax bU hd;rw[aU,aq]at this;omega
 have HJ:=dk DB;have yK:l[a]=34:=by rw[HJ,gJ]at hh;exact dT hh
 rw[yK]at HJ;have hrd:kO c (l.drop a)=match eM (l.drop (a+1))with
  | none=>none
  | some p=>some ((p.1,true),p.2):=by
  unfold kO
  rw[ag hh,HJ,List.tail_cons]
  rfl
 rw[hrd];obtain⟨pa,ca⟩:=hs.aR (g:=bv) (λ_=>rfl) DB;rw[yK]at ca;change V.cell? _=some (bv 34)at ca;clear hrd HJ hh yK;refine wk ?_;replace H:=H.br 5 1;refine aP (S:=Nat×Sl×ab) al [0,1,2,22,48,53] (λz=>[(10,z.2.1.v),(11,iv z.1)]) (λz w'=>eM (l.drop (a+1))=rU z.2.2 (eM (l.drop z.1))/\z.2.2.length<=z.1/\z.1<=l.length/\Rel W V [.row z.2.1 5 1 (z.2.2.flatMap aI)] V w') (λz _=>l.length-z.1) (a+1,⟨none,0,0⟩,[]) ?_;conv=>whnf
 refine⟨sB,⟨(WH _).symm,cE _,by dsimp only;omega,H⟩,?_⟩;clear H;rintro⟨p,cs,x⟩w⟨hrd,hxp,hp,H⟩;dsimp only at hrd hxp hp H |-;rw[hrd];by_cases hpl:p<l.length;rotate_left
 ·rw[fc aa];refine wk ?_;exact⟨V,⟨none,0,0⟩,false,false,0,aS _,H.sx,rfl,rfl⟩
 obtain⟨p0,c0⟩:=hs.aR (g:=bv) (λ_=>rfl) hpl;obtain⟨d,hd⟩:∃d,d=l[p]:=⟨_,rfl⟩
 rw[<-hd]at c0;have yc:=d.toNat_lt;have dv:l.drop p=d::l.drop (p+1):=by rw[hd];exact dk hpl
 by_cases e1:d.toNat=34;rotate_left
 ·rw[dv,Xy (λh=>e1 (by rw[h];rfl)),yX];rw[dv,Xy (λh=>e1 (by rw[h];rfl)),yX]at hrd;refine H.wn ?_;intro w b2 H;refine wk ?_;refine Rel.bF (f:=aI) (s:=cs) (l:=x) (x:=d) rfl (λ_=>rfl) (by simp[Value.oneCell']) H (by show(_+1)*1<=_;omega) aa ?_;intro dE w H;refine wk ?_;rw[<-hrd];exact⟨sB,(p+1,dE,x++[d]),sB,⟨hrd,by simp only[ak,aq,aK];omega,by dsimp only;omega,H.sx⟩,by dsimp only;omega⟩
 obtain rfl:d=34:=bL.1 (by rw[e1];rfl);clear e1 yc;change V.cell? _=some (bv 34)at c0;by_cases lL:p+1<l.length;rotate_left
 ·rw[dv,XA (by rw[fc aa];decide)];rw[show x=x++[]from(aZ x).symm]at H;obtain⟨V2,hV2,H,hr⟩:=Rel.aJ H;try(have c2:=hV2.cell c0)
  try(have c3:=hV2.cell c1)
  refine wk ?_;exact⟨V2,cs,true,true,(p+1),hV2,H.sx,rfl,rfl,rfl,hr,aa,rfl⟩
 obtain⟨p1,c1⟩:=hs.aR (g:=bv) (λ_=>rfl) lL;obtain⟨d,hd⟩:∃d,d=l[p+1]:=⟨_,rfl⟩
 rw[<-hd]at c1;have yc:=d.toNat_lt;have My:l.drop (p+1)=d::l.drop (p+2):=by rw[hd];exact dk lL
 by_cases e1:d.toNat=34;rotate_left
 ·rw[dv,XA (by rw[My,gJ];intro h;cases h;exact e1 rfl)];rw[show x=x++[]from(aZ x).symm]at H;obtain⟨V2,hV2,H,hr⟩:=Rel.aJ H;try(have c2:=hV2.cell c0)
  try(have c3:=hV2.cell c1)
  refine wk ?_;exact⟨V2,cs,true,true,(p+1),hV2,H.sx,rfl,rfl,rfl,hr,aa,rfl⟩
 obtain rfl:d=34:=bL.1 (by rw[e1];rfl);rw[dv,My,XB,yX]at hrd;rw[dv,My,XB,yX];refine H.wn ?_;intro w b3 H;refine wk ?_;refine Rel.bF (f:=aI) (s:=cs) (l:=x) (x:=34) rfl (λ_=>rfl) (by simp[Value.oneCell']) H (by show(_+1)*1<=_;omega) aa ?_;intro dE w H;refine wk ?_;rw[<-hrd];exact⟨sB,(p+2,dE,x++[34]),sB,⟨hrd,by simp only[ak,aq,aK];omega,by dsimp only;omega,H.sx⟩,by dsimp only;omega⟩
abbrev FE(rs qs:Sl)(o:Bool):aC:=[rs.v,qs.v,.bool o]
structure aaq(W V:ad)(s:UInt8)(x:Option (List (List bQ)×Bool))(v:aj)(w':ad):Prop where
 ex:∃(V':ad) (rs qs:Sl) (o g:Bool),Sub V V'/\Rel W V [] V' w'/\v=.tuple #[.agg (FE rs qs o).toArray,.bool g]/\(match x with
  | none=>g=false
  | some y=>g=true/\(y.1≠[]->o=y.2)/\qT V' rs (iF y.1)/\aA bN V' qs (nz (qn s 0 y.1.flatten)))
theorem xD{p:Nat}(h:p<l.length):l.drop p=l[p]::l.drop (p+1):=dk h
theorem aj6(hV:Sub V W){n:Nat}(k:Bool){s:Sl}{l:ab}(hs:aF V s l)(hl:l.length<=1000):aB 95 [s.v,bv (aY n),.bool k] W (aaq W V (aY n) (ie (aY n) (cy k) l)):=by
 have H:=aG hV;have hlen:=hs.len;refine eV Tryz.func95 121 [0,1,2,6,7,8,9,10,11,12,13,14,15,20,31,39,64,79,113,117] ?_;refine H.wn ?_;intro w b6 H;refine H.wn ?_;intro w b8 H;refine H.wg ?_;intro w H;replace H:=(H.br 3 1).br 96 1;refine aP (S:=Nat×List (List bQ)×Sl×List Sl×Sl×Bool) al [0,1,2,6,8] (λz=>[(9,iv (z.2.1.flatten.length:Nat)),(10,iv z.1)]) (λz w'=>ie (aY n) (cy k) l=sD (aY n) (cy k) z.2.1 (l.drop z.1)/\(z.2.1≠[]->z.2.2.2.2.2=false)/\z.1<=l.length/\z.2.1.length<=z.1/\z.2.1.flatten.length<=z.1/\∃V2,Sub V V2/\Pw xe V2 z.2.2.2.1 (iF z.2.1)/\Rel W V [.row z.2.2.1 96 1 (z.2.2.2.1.flatMap du),.row z.2.2.2.2.1 3 1 ((nz (qn (aY n) 0 z.2.1.flatten)).flatMap bN),.ay b8 (FE z.2.2.1 z.2.2.2.2.1 z.2.2.2.2.2) 108,.ay b6 (FE ⟨none,0,0⟩ ⟨none,0,0⟩ false) 108] V2 w') (λz _=>l.length-z.1) (0,[],⟨none,0,0⟩,[],⟨none,0,0⟩,true) ?_;conv=>whnf
 refine⟨sB,⟨rfl,λh=>absurd rfl h,cE _,aQ _,aQ _,V,aS _,Pw.nil,H⟩,?_⟩;clear H;rintro⟨pa,R,rs,hh,qs,op⟩w⟨hrd,hop,Bb,qc,Dx,V2,hV2,hP,H⟩;dsimp only at hrd hop Bb qc Dx hP H |-;have A4:=hP.len;rw[aW]at A4;by_cases hpl:pa<l.length;rotate_left
 ·rw[hrd,fc aa];obtain⟨V3,aw,H,bI⟩:=Rel.aJ H;obtain⟨V4,ar,H,gm⟩:=Rel.aJ H;refine H.wg ?_;intro w H;exact⟨V4,rs,qs,op,true,(hV2.trans aw).trans ar,H.sx,rfl,rfl,hop,⟨hh,bI.up ar,hP.up jP (aw.trans ar)⟩,gm⟩
 refine wk ?_;replace H:=H.br 22 1;rw[sD,ae (by intro h;rw[xD hpl]at h;cases h)]at hrd;refine aP (S:=Nat×List bQ×Sl×List Sl×Sl) al [0,1,2,6,8,20,79,113,117] (λz=>[(9,iv ((R.flatten.length+z.2.1.length:Nat):Int)),(10,iv z.1),(11,z.2.2.1.v)]) (λz w'=>ie (aY n) (cy k) l=lp (aY n) (cy k) R z.2.1 (l.drop z.1)/\z.1<=l.length/\pa<=z.1/\R.length<=z.1/\R.flatten.length+z.2.1.length<=z.1/\∃V3,Sub V V3/\Pw xe V3 hh (iF R)/\Pw lW V3 z.2.2.2.1 (z.2.1.map Prod.fst)/\Rel W V [.row z.2.2.1 22 1 (z.2.2.2.1.flatMap du),.row rs 96 1 (hh.flatMap du),.row z.2.2.2.2 3 1 ((nz (qn (aY n) 0 (R.flatten++z.2.1))).flatMap bN),.ay b8 (FE rs z.2.2.2.2 op) 108,.ay b6 (FE ⟨none,0,0⟩ ⟨none,0,0⟩ false) 108] V3 w') (λz _=>l.length-z.1) (pa,[],⟨none,0,0⟩,[],qs) ?_;conv=>whnf
 refine⟨sB,⟨hrd,Bb,aQ _,qc,Dx,V2,hV2,hP,Pw.nil,by rw[aZ];exact H⟩,?_⟩;clear H hrd hP hV2 V2 Bb;rintro⟨p,r,cs,gs,qs⟩w⟨hrd,Bb,hpa,hRp,oh,V2,hV2,hP,hG,H⟩;dsimp only at hrd Bb hpa hRp oh hP hG H |-;refine wk ?_;refine(abg H.data (hs.up hV2) aa Bb (oK n).1 (oK n).2.1).use ?_;rintro v w⟨V3,c,f,g,p2,aw,K,rfl,hres⟩;replace H:=H.cq K;have bu:=hV2.trans aw;have rD:=hG.len;rw[aW]at rD;cases cP:kO (aY n) (l.drop p)with
 | none =>rw[cP]at hres;obtain rfl:=hres;rw[Fp cP]at hrd;rw[hrd];refine H.wg ?_;intro w H;exact⟨V3,rs,qs,op,false,bu,H.sx,rfl,rfl⟩
 | some y =>
  obtain⟨⟨x,f⟩,t⟩:=y;rw[cP]at hres;obtain⟨rfl,rfl,pd,iz,fS⟩:=hres;dsimp only at pd fS |-;have hle:=Jq cP;rw[<-fS,aU,aU]at hle;have hxl:x.length<=l.length:=by
   have h:=cP;rw[O5]at h;cases gZ:qW (aY n) (l.drop p)with
   | none=>rw[gZ]at h;cases h
   | some q =>
    obtain⟨q1,q2⟩:=q;rw[gZ]at h;simp only at h;split at h
    ·cases h
    cases h;have:=Ri gZ;rw[aU]at this;dsimp only at this;omega
  have ff:=O2 (s:=aY n) (c:=(x,f)) (r:=R.flatten++r) (k:=0);rw[bj,Nat.zero_add,ak]at ff;dsimp only at ff;have cD:=OZ (s:=aY n) (r:=R.flatten++r) (k:=0);rw[ak]at cD;have hnl:(nz (qn (aY n) 0 (R.flatten++r))).length=(qn (aY n) 0 (R.flatten++r)).length:=aW _;have xQ:Pw lW V3 (gs++[c]) ((r++[(x,f)]).map Prod.fst):=by rw[dU];exact(hG.up (λ_ _ _ _ k h=>h.up k) aw).snoc pd
  have hP2:=hP.up jP aw;have A4:=hP.len;rw[aW]at A4;cases f with
  | false =>
   rw[qw,ae ai,aZ]at ff;rw[<-ff]at H;refine H.wn ?_;intro w Q0 H;refine wk ?_;refine Rel.bF (f:=du) (s:=cs) (l:=gs) (x:=c) rfl (λ_=>rfl) (by simp[Value.oneCell']) H (by show(gs.length+1)*24<=_;omega) aa ?_;intro dE w H;have iL:Pw lW V3 (gs++[c]) ((r++[(x,false)]).map Prod.fst):=xQ;by_cases hpl:p2<l.length;rotate_left
   ·have ht0:t=[]:=by rw[<-fS];exact fc aa
    rw[ht0]at cP;rw[B5 cP]at hrd;rw[hrd];obtain⟨V4,ar,H,hcs⟩:=Rel.aJ H;try(have c2:=ar.cell c0)
    refine H.wn ?_;intro w CN H;refine wk ?_;refine Rel.bF (f:=du) (s:=rs) (l:=hh) (x:=dE) rfl (λ_=>rfl) (by simp[Value.oneCell']) H (by show(hh.length+1)*24<=_;omega) aa ?_;intro dn w H;refine H.wg ?_;intro _ _ w H;obtain⟨V5,aN,H,bI⟩:=Rel.aJ H;obtain⟨V6,bC,H,gm⟩:=Rel.aJ H;refine⟨V6,dn,qs,decide ((p2:Int)=s.len),true,((bu.trans ar).trans aN).trans bC,H.sx,rfl,rfl,λ_=>bw aa,⟨hh++[dE],bI.up bC,?_⟩,?_⟩
    ·rw[nM];exact(hP2.up jP ((ar.trans aN).trans bC)).snoc ⟨gs++[c],hcs.up (aN.trans bC),iL.up (λ_ _ _ _ k h=>h.up k) ((ar.trans aN).trans bC)⟩
    rw[fZ];exact gm
   obtain⟨p0,c0⟩:=(hs.up bu).aR (g:=bv) (λ_=>rfl) hpl;obtain⟨d,hd⟩:∃d,d=l[p2]:=⟨_,rfl⟩
   rw[<-hd]at c0;have dv:=xD hpl;rw[<-hd,fS]at dv;have ht0:t≠[]:=by rw[dv];simp
   by_cases hds:d=aY n
   ·subst hds;rw[dv]at cP;rw[B6 (kA k) cP (λh=>by have:=ax List.head? h;cases k<;>simp[cy]at this<;>first|exact(oK n).2.2.1 this|exact(oK n).2.2.2 this)]at hrd;refine wk ?_;refine⟨sB,(p2+1,r++[(x,false)],dE,gs++[c],qs),⟨?_,rfl,rfl,trivial⟩,⟨hrd,?_,?_,?_,?_,V3,bu,hP2,iL,H⟩,?_⟩
    ·show some (bO .i64 _)=some (.int .i64 _);congr 2;simp only[ak,aq,aK];omega
    ·dsimp only;omega
    ·dsimp only;omega
    ·dsimp only;omega
    ·simp only[ak,aq,aK];omega
    dsimp only;omega
   have AZ:d.toNat≠(aY n).toNat:=λh=>hds (bL.1 h);obtain⟨V4,ar,H,hcs⟩:=Rel.aJ H;try(have c2:=ar.cell c0)
   refine H.wn ?_;intro w CN H;refine wk ?_;refine Rel.bF (f:=du) (s:=rs) (l:=hh) (x:=dE) rfl (λ_=>rfl) (by simp[Value.oneCell']) H (by show(hh.length+1)*24<=_;omega) aa ?_;intro dn w H;cases k with
   | false =>
    by_cases h10:d.toNat=10
    ·obtain rfl:d=10:=bL.1 (by rw[h10];rfl);change V4.cell? _=some (bv 10)at c2;rw[u6 (kA _) cP (by rw[dv];rfl)]at hrd;refine H.wg ?_;intro _ w H;refine⟨sB,(p2+1,R++[r++[(x,false)]],dn,hh++[dE],qs,decide ((p2:Int)=s.len)),⟨?_,rfl,trivial⟩,⟨?_,λ_=>bA aa,?_,?_,?_,V4,bu.trans ar,?_,?_⟩,?_⟩
     ·show some (bO .i64 _)=some (.int .i64 _);congr 2;simp only[fZ,ak,aq,aK];omega
     ·rw[hrd,<-fS,gK];rfl
     ·dsimp only;omega
     ·simp only[ak,aq,aK];omega
     ·simp only[fZ,ak,aq,aK];omega
     ·rw[nM];exact(hP2.up jP ar).snoc ⟨gs++[c],hcs,iL.up (λ_ _ _ _ k h=>h.up k) ar⟩
     ·dsimp only;rw[fZ];exact H
     dsimp only;omega
    rw[nH cP ht0 (by rw[dv];intro h;exact h10 (ax UInt8.toNat (dT (ax List.head? h)))) (by rw[dv,gJ];intro h;exact hds (dT h))]at hrd;rw[hrd];refine H.wg ?_;intro _ _ w H;exact⟨V4,dn,qs,decide ((p2:Int)=s.len),false,bu.trans ar,H.sx,rfl,rfl⟩
   | true =>
    by_cases j7:d.toNat=13;rotate_left
    ·rw[nH cP ht0 (by rw[dv];intro h;exact j7 (ax UInt8.toNat (dT (ax List.head? h)))) (by rw[dv,gJ];intro h;exact hds (dT h))]at hrd;rw[hrd];refine H.wg ?_;intro _ _ w H;exact⟨V4,dn,qs,decide ((p2:Int)=s.len),false,bu.trans ar,H.sx,rfl,rfl⟩
    obtain rfl:d=13:=bL.1 (by rw[j7];rfl);change V4.cell? _=some (bv 13)at c2;by_cases vV:p2+1<l.length;rotate_left
    ·rw[nH cP ht0 (by rw[dv,fc aa];decide) (by rw[dv,gJ];intro h;exact hds (dT h))]at hrd;rw[hrd];refine H.wg ?_;intro _ _ w H;exact⟨V4,dn,qs,decide ((p2:Int)=s.len),false,bu.trans ar,H.sx,rfl,rfl⟩
    obtain⟨_,c3⟩:=(hs.up (bu.trans ar)).aR (g:=bv) (λ_=>rfl) vV;obtain⟨d2,pf⟩:∃d,d=l[p2+1]:=⟨_,rfl⟩
    rw[<-pf]at c3;have ry:=xD vV;rw[<-pf]at ry;by_cases h10:d2.toNat=10
    ·obtain rfl:d2=10:=bL.1 (by rw[h10];rfl);change V4.cell? _=some (bv 10)at c3;rw[u6 (kA _) cP (by rw[dv,ry];rfl)]at hrd;refine H.wg ?_;intro _ w H;refine⟨sB,(p2+2,R++[r++[(x,false)]],dn,hh++[dE],qs,decide ((p2:Int)=s.len)),⟨?_,rfl,trivial⟩,⟨?_,λ_=>bA aa,?_,?_,?_,V4,bu.trans ar,?_,?_⟩,?_⟩
     ·show some (bO .i64 _)=some (.int .i64 _);congr 2;simp only[fZ,ak,aq,aK];omega
     ·rw[hrd,<-fS,gK];rfl
     ·dsimp only;omega
     ·simp only[ak,aq,aK];omega
     ·simp only[fZ,ak,aq,aK];omega
     ·rw[nM];exact(hP2.up jP ar).snoc ⟨gs++[c],hcs,iL.up (λ_ _ _ _ k h=>h.up k) ar⟩
     ·dsimp only;rw[fZ];exact H
     dsimp only;omega
    rw[nH cP ht0 (by rw[dv,ry];intro h;exact h10 (ax UInt8.toNat (dT (ax (λl=>l[1]?) h)))) (by rw[dv,gJ];intro h;exact hds (dT h))]at hrd;rw[hrd];refine H.wg ?_;intro _ _ w H;exact⟨V4,dn,qs,decide ((p2:Int)=s.len),false,bu.trans ar,H.sx,rfl,rfl⟩
  | true =>
   refine wk ?_;refine(agy H.data pd aa (aY n)).use ?_;rintro v w⟨rfl,K⟩;replace H:=Rel.call H K;simp only[aL]at H;cases hN:eR (aY n) x with
   | true =>
    rw[hN,Bool.not_true,Bool.and_false,ae ai,aZ]at ff;rw[<-ff]at H;refine H.wn ?_;intro w Q0 H;refine wk ?_;refine Rel.bF (f:=du) (s:=cs) (l:=gs) (x:=c) rfl (λ_=>rfl) (by simp[Value.oneCell']) H (by show(gs.length+1)*24<=_;omega) aa ?_;intro dE w H;have iL:Pw lW V3 (gs++[c]) ((r++[(x,true)]).map Prod.fst):=xQ;by_cases hpl:p2<l.length;rotate_left
    ·have ht0:t=[]:=by rw[<-fS];exact fc aa
     rw[ht0]at cP;rw[B5 cP]at hrd;rw[hrd];obtain⟨V4,ar,H,hcs⟩:=Rel.aJ H;try(have c2:=ar.cell c0)
     refine H.wn ?_;intro w CN H;refine wk ?_;refine Rel.bF (f:=du) (s:=rs) (l:=hh) (x:=dE) rfl (λ_=>rfl) (by simp[Value.oneCell']) H (by show(hh.length+1)*24<=_;omega) aa ?_;intro dn w H;refine H.wg ?_;intro _ _ w H;obtain⟨V5,aN,H,bI⟩:=Rel.aJ H;obtain⟨V6,bC,H,gm⟩:=Rel.aJ H;refine⟨V6,dn,qs,decide ((p2:Int)=s.len),true,((bu.trans ar).trans aN).trans bC,H.sx,rfl,rfl,λ_=>bw aa,⟨hh++[dE],bI.up bC,?_⟩,?_⟩
     ·rw[nM];exact(hP2.up jP ((ar.trans aN).trans bC)).snoc ⟨gs++[c],hcs.up (aN.trans bC),iL.up (λ_ _ _ _ k h=>h.up k) ((ar.trans aN).trans bC)⟩
     rw[fZ];exact gm
    obtain⟨p0,c0⟩:=(hs.up bu).aR (g:=bv) (λ_=>rfl) hpl;obtain⟨d,hd⟩:∃d,d=l[p2]:=⟨_,rfl⟩
    rw[<-hd]at c0;have dv:=xD hpl;rw[<-hd,fS]at dv;have ht0:t≠[]:=by rw[dv];simp
    by_cases hds:d=aY n
    ·subst hds;rw[dv]at cP;rw[B6 (kA k) cP (λh=>by have:=ax List.head? h;cases k<;>simp[cy]at this<;>first|exact(oK n).2.2.1 this|exact(oK n).2.2.2 this)]at hrd;refine wk ?_;refine⟨sB,(p2+1,r++[(x,true)],dE,gs++[c],qs),⟨?_,rfl,rfl,trivial⟩,⟨hrd,?_,?_,?_,?_,V3,bu,hP2,iL,H⟩,?_⟩
     ·show some (bO .i64 _)=some (.int .i64 _);congr 2;simp only[ak,aq,aK];omega
     ·dsimp only;omega
     ·dsimp only;omega
     ·dsimp only;omega
     ·simp only[ak,aq,aK];omega
     dsimp only;omega
    have AZ:d.toNat≠(aY n).toNat:=λh=>hds (bL.1 h);obtain⟨V4,ar,H,hcs⟩:=Rel.aJ H;try(have c2:=ar.cell c0)
    refine H.wn ?_;intro w CN H;refine wk ?_;refine Rel.bF (f:=du) (s:=rs) (l:=hh) (x:=dE) rfl (λ_=>rfl) (by simp[Value.oneCell']) H (by show(hh.length+1)*24<=_;omega) aa ?_;intro dn w H;cases k with
    | false =>
     by_cases h10:d.toNat=10
     ·obtain rfl:d=10:=bL.1 (by rw[h10];rfl);change V4.cell? _=some (bv 10)at c2;rw[u6 (kA _) cP (by rw[dv];rfl)]at hrd;refine H.wg ?_;intro _ w H;refine⟨sB,(p2+1,R++[r++[(x,true)]],dn,hh++[dE],qs,decide ((p2:Int)=s.len)),⟨?_,rfl,trivial⟩,⟨?_,λ_=>bA aa,?_,?_,?_,V4,bu.trans ar,?_,?_⟩,?_⟩
      ·show some (bO .i64 _)=some (.int .i64 _);congr 2;simp only[fZ,ak,aq,aK];omega
      ·rw[hrd,<-fS,gK];rfl
      ·dsimp only;omega
      ·simp only[ak,aq,aK];omega
      ·simp only[fZ,ak,aq,aK];omega
      ·rw[nM];exact(hP2.up jP ar).snoc ⟨gs++[c],hcs,iL.up (λ_ _ _ _ k h=>h.up k) ar⟩
      ·dsimp only;rw[fZ];exact H
      dsimp only;omega
     rw[nH cP ht0 (by rw[dv];intro h;exact h10 (ax UInt8.toNat (dT (ax List.head? h)))) (by rw[dv,gJ];intro h;exact hds (dT h))]at hrd;rw[hrd];refine H.wg ?_;intro _ _ w H;exact⟨V4,dn,qs,decide ((p2:Int)=s.len),false,bu.trans ar,H.sx,rfl,rfl⟩
    | true =>
     by_cases j7:d.toNat=13;rotate_left
     ·rw[nH cP ht0 (by rw[dv];intro h;exact j7 (ax UInt8.toNat (dT (ax List.head? h)))) (by rw[dv,gJ];intro h;exact hds (dT h))]at hrd;rw[hrd];refine H.wg ?_;intro _ _ w H;exact⟨V4,dn,qs,decide ((p2:Int)=s.len),false,bu.trans ar,H.sx,rfl,rfl⟩
     obtain rfl:d=13:=bL.1 (by rw[j7];rfl);change V4.cell? _=some (bv 13)at c2;by_cases vV:p2+1<l.length;rotate_left
     ·rw[nH cP ht0 (by rw[dv,fc aa];decide) (by rw[dv,gJ];intro h;exact hds (dT h))]at hrd;rw[hrd];refine H.wg ?_;intro _ _ w H;exact⟨V4,dn,qs,decide ((p2:Int)=s.len),false,bu.trans ar,H.sx,rfl,rfl⟩
     obtain⟨_,c3⟩:=(hs.up (bu.trans ar)).aR (g:=bv) (λ_=>rfl) vV;obtain⟨d2,pf⟩:∃d,d=l[p2+1]:=⟨_,rfl⟩
     rw[<-pf]at c3;have ry:=xD vV;rw[<-pf]at ry;by_cases h10:d2.toNat=10
     ·obtain rfl:d2=10:=bL.1 (by rw[h10];rfl);change V4.cell? _=some (bv 10)at c3;rw[u6 (kA _) cP (by rw[dv,ry];rfl)]at hrd;refine H.wg ?_;intro _ w H;refine⟨sB,(p2+2,R++[r++[(x,true)]],dn,hh++[dE],qs,decide ((p2:Int)=s.len)),⟨?_,rfl,trivial⟩,⟨?_,λ_=>bA aa,?_,?_,?_,V4,bu.trans ar,?_,?_⟩,?_⟩
      ·show some (bO .i64 _)=some (.int .i64 _);congr 2;simp only[fZ,ak,aq,aK];omega
      ·rw[hrd,<-fS,gK];rfl
      ·dsimp only;omega
      ·simp only[ak,aq,aK];omega
      ·simp only[fZ,ak,aq,aK];omega
      ·rw[nM];exact(hP2.up jP ar).snoc ⟨gs++[c],hcs,iL.up (λ_ _ _ _ k h=>h.up k) ar⟩
      ·dsimp only;rw[fZ];exact H
      dsimp only;omega
     rw[nH cP ht0 (by rw[dv,ry];intro h;exact h10 (ax UInt8.toNat (dT (ax (λl=>l[1]?) h)))) (by rw[dv,gJ];intro h;exact hds (dT h))]at hrd;rw[hrd];refine H.wg ?_;intro _ _ w H;exact⟨V4,dn,qs,decide ((p2:Int)=s.len),false,bu.trans ar,H.sx,rfl,rfl⟩
   | false =>
    rw[hN,Bool.not_false,Bool.and_true,ag rfl]at ff;refine H.wn ?_;intro w b46 H;refine wk ?_;refine Rel.ub (f:=bN) (s:=qs) (l:=nz (qn (aY n) 0 (R.flatten++r))) (x:=((R.flatten.length+r.length:Nat):Int)) rfl (λ_=>rfl) (by simp[Value.oneCell']) H (by rw[hnl];show(_+1)*8<=_;omega) (by rw[hnl];omega) ?_;intro qC w H;rw[show nz (qn (aY n) 0 (R.flatten++r))++[((R.flatten.length+r.length:Nat):Int)]=nz (qn (aY n) 0 (R.flatten++(r++[(x,true)])))by rw[ff];simp]at H;refine H.wh ?_;intro w H;refine H.nA ?_;intro w Q0 H;refine wk ?_;refine Rel.bF (f:=du) (s:=cs) (l:=gs) (x:=c) rfl (λ_=>rfl) (by simp[Value.oneCell']) H (by show(gs.length+1)*24<=_;omega) aa ?_;intro dE w H;have iL:Pw lW V3 (gs++[c]) ((r++[(x,true)]).map Prod.fst):=xQ;by_cases hpl:p2<l.length;rotate_left
    ·have ht0:t=[]:=by rw[<-fS];exact fc aa
     rw[ht0]at cP;rw[B5 cP]at hrd;rw[hrd];obtain⟨V4,ar,H,hcs⟩:=Rel.aJ H;try(have c2:=ar.cell c0)
     refine H.wn ?_;intro w CN H;refine wk ?_;refine Rel.bF (f:=du) (s:=rs) (l:=hh) (x:=dE) rfl (λ_=>rfl) (by simp[Value.oneCell']) H (by show(hh.length+1)*24<=_;omega) aa ?_;intro dn w H;refine H.wg ?_;intro _ _ w H;obtain⟨V5,aN,H,bI⟩:=Rel.aJ H;obtain⟨V6,bC,H,gm⟩:=Rel.aJ H;refine⟨V6,dn,qC,decide ((p2:Int)=s.len),true,((bu.trans ar).trans aN).trans bC,H.sx,rfl,rfl,λ_=>bw aa,⟨hh++[dE],bI.up bC,?_⟩,?_⟩
     ·rw[nM];exact(hP2.up jP ((ar.trans aN).trans bC)).snoc ⟨gs++[c],hcs.up (aN.trans bC),iL.up (λ_ _ _ _ k h=>h.up k) ((ar.trans aN).trans bC)⟩
     rw[fZ];exact gm
    obtain⟨p0,c0⟩:=(hs.up bu).aR (g:=bv) (λ_=>rfl) hpl;obtain⟨d,hd⟩:∃d,d=l[p2]:=⟨_,rfl⟩
    rw[<-hd]at c0;have dv:=xD hpl;rw[<-hd,fS]at dv;have ht0:t≠[]:=by rw[dv];simp
    by_cases hds:d=aY n
    ·subst hds;rw[dv]at cP;rw[B6 (kA k) cP (λh=>by have:=ax List.head? h;cases k<;>simp[cy]at this<;>first|exact(oK n).2.2.1 this|exact(oK n).2.2.2 this)]at hrd;refine wk ?_;refine⟨sB,(p2+1,r++[(x,true)],dE,gs++[c],qC),⟨?_,rfl,rfl,trivial⟩,⟨hrd,?_,?_,?_,?_,V3,bu,hP2,iL,H⟩,?_⟩
     ·show some (bO .i64 _)=some (.int .i64 _);congr 2;simp only[ak,aq,aK];omega
     ·dsimp only;omega
     ·dsimp only;omega
     ·dsimp only;omega
     ·simp only[ak,aq,aK];omega
     dsimp only;omega
    have AZ:d.toNat≠(aY n).toNat:=λh=>hds (bL.1 h);obtain⟨V4,ar,H,hcs⟩:=Rel.aJ H;try(have c2:=ar.cell c0)
    refine H.wn ?_;intro w CN H;refine wk ?_;refine Rel.bF (f:=du) (s:=rs) (l:=hh) (x:=dE) rfl (λ_=>rfl) (by simp[Value.oneCell']) H (by show(hh.length+1)*24<=_;omega) aa ?_;intro dn w H;cases k with
    | false =>
     by_cases h10:d.toNat=10
     ·obtain rfl:d=10:=bL.1 (by rw[h10];rfl);change V4.cell? _=some (bv 10)at c2;rw[u6 (kA _) cP (by rw[dv];rfl)]at hrd;refine H.wg ?_;intro _ w H;refine⟨sB,(p2+1,R++[r++[(x,true)]],dn,hh++[dE],qC,decide ((p2:Int)=s.len)),⟨?_,rfl,trivial⟩,⟨?_,λ_=>bA aa,?_,?_,?_,V4,bu.trans ar,?_,?_⟩,?_⟩
      ·show some (bO .i64 _)=some (.int .i64 _);congr 2;simp only[fZ,ak,aq,aK];omega
      ·rw[hrd,<-fS,gK];rfl
      ·dsimp only;omega
      ·simp only[ak,aq,aK];omega
      ·simp only[fZ,ak,aq,aK];omega
      ·rw[nM];exact(hP2.up jP ar).snoc ⟨gs++[c],hcs,iL.up (λ_ _ _ _ k h=>h.up k) ar⟩
      ·dsimp only;rw[fZ];exact H
      dsimp only;omega
     rw[nH cP ht0 (by rw[dv];intro h;exact h10 (ax UInt8.toNat (dT (ax List.head? h)))) (by rw[dv,gJ];intro h;exact hds (dT h))]at hrd;rw[hrd];refine H.wg ?_;intro _ _ w H;exact⟨V4,dn,qC,decide ((p2:Int)=s.len),false,bu.trans ar,H.sx,rfl,rfl⟩
    | true =>
     by_cases j7:d.toNat=13;rotate_left
     ·rw[nH cP ht0 (by rw[dv];intro h;exact j7 (ax UInt8.toNat (dT (ax List.head? h)))) (by rw[dv,gJ];intro h;exact hds (dT h))]at hrd;rw[hrd];refine H.wg ?_;intro _ _ w H;exact⟨V4,dn,qC,decide ((p2:Int)=s.len),false,bu.trans ar,H.sx,rfl,rfl⟩
     obtain rfl:d=13:=bL.1 (by rw[j7];rfl);change V4.cell? _=some (bv 13)at c2;by_cases vV:p2+1<l.length;rotate_left
     ·rw[nH cP ht0 (by rw[dv,fc aa];decide) (by rw[dv,gJ];intro h;exact hds (dT h))]at hrd;rw[hrd];refine H.wg ?_;intro _ _ w H;exact⟨V4,dn,qC,decide ((p2:Int)=s.len),false,bu.trans ar,H.sx,rfl,rfl⟩
     obtain⟨_,c3⟩:=(hs.up (bu.trans ar)).aR (g:=bv) (λ_=>rfl) vV;obtain⟨d2,pf⟩:∃d,d=l[p2+1]:=⟨_,rfl⟩
     rw[<-pf]at c3;have ry:=xD vV;rw[<-pf]at ry;by_cases h10:d2.toNat=10
     ·obtain rfl:d2=10:=bL.1 (by rw[h10];rfl);change V4.cell? _=some (bv 10)at c3;rw[u6 (kA _) cP (by rw[dv,ry];rfl)]at hrd;refine H.wg ?_;intro _ w H;refine⟨sB,(p2+2,R++[r++[(x,true)]],dn,hh++[dE],qC,decide ((p2:Int)=s.len)),⟨?_,rfl,trivial⟩,⟨?_,λ_=>bA aa,?_,?_,?_,V4,bu.trans ar,?_,?_⟩,?_⟩
      ·show some (bO .i64 _)=some (.int .i64 _);congr 2;simp only[fZ,ak,aq,aK];omega
      ·rw[hrd,<-fS,gK];rfl
      ·dsimp only;omega
      ·simp only[ak,aq,aK];omega
      ·simp only[fZ,ak,aq,aK];omega
      ·rw[nM];exact(hP2.up jP ar).snoc ⟨gs++[c],hcs,iL.up (λ_ _ _ _ k h=>h.up k) ar⟩
      ·dsimp only;rw[fZ];exact H
      dsimp only;omega
     rw[nH cP ht0 (by rw[dv,ry];intro h;exact h10 (ax UInt8.toNat (dT (ax (λl=>l[1]?) h)))) (by rw[dv,gJ];intro h;exact hds (dT h))]at hrd;rw[hrd];refine H.wg ?_;intro _ _ w H;exact⟨V4,dn,qC,decide ((p2:Int)=s.len),false,bu.trans ar,H.sx,rfl,rfl⟩
theorem Cj{k:Bool}{r:List bQ} :lz k (r::R) o=(decide (2<=r.length)&&(!k||decide (1<R.length+1)||!o)):=by unfold lz;rw[aq,bw (Nat.succ_pos _),Bool.true_and];rfl
theorem akM(h:∀j,j<6->fD j l=none):gU l=none:=by have e:tO l=none:=PQ (aQ _) λj _ h2=>h j h2;unfold gU;rw[e]
theorem J0{i:Nat}(hi:i<6)(h:∀j,j<i->fD j l=none)(h2:fD i l=some (R,o)):gU l=tN i R o:=by have e:tO l=some (i,R,o):=JZ (aQ _) aa hi (λj _ h3=>h j h3) h2;unfold gU;rw[e]
theorem akN(hV:Sub V W){s:Sl}{l:ab}(hs:aF V s l)(hl:l.length<=1000):aB 28 [s.v] W (Ae W V (gU l)):=by
 have H:=aG hV;have hlen:=hs.len;refine eV Tryz.func28 80 [0,2,3,4,5,6,7,8,9,11,55,62,71] ?_;refine H.wn ?_;intro w b2 H;refine wk ?_;refine aP (S:=Nat) al [0,2] (λn=>[(5,iv n)]) (λn w'=>n<=6/\(∀g,g<n->fD g l=none)/\∃V2,Sub V V2/\Rel W V [.ay b2 (a8 aV) 27] V2 w') (λn _=>6-n) 0 ?_;conv=>whnf
 refine⟨sB,⟨aa,λg hg=>by omega,V,aS _,H⟩,?_⟩;clear H;rintro n w⟨hn6,hno,V2,hV2,H⟩;by_cases hn:n<6;rotate_left
 ·obtain rfl:n=6:=aa;rw[akM hno];refine H.wg ?_;intro w H;exact⟨V2,aV,⟨none,0,0⟩,zeroV,[],hV2,H.sx,cG _,aA.nil _ _,rfl⟩
 refine wk ?_;rw[show((n:Nat):Int)/2=((n/2:Nat):Int)by omega];refine H.us (ajY H.data (n:=n/2) aa) ?_;intro w H;refine wk ?_;rw[show decide (((n:Nat):Int)%2=1)=dx n from decide_eq_decide.2 aa];refine(aj6 H.data (n:=n/2) (dx n) (hs.up hV2) hl).use ?_;rintro v w⟨V3,rs,qs,o,g,aw,K,rfl,hres⟩;replace H:=H.cq K;have bu:=hV2.trans aw;refine H.wn ?_;intro w b6 H;cases hr:ie (aY (n/2)) (cy (dx n)) l with
 | none =>
  rw[hr]at hres;dsimp only at hres;subst hres;have hone:fD n l=none:=by unfold fD;rw[hr]
  refine H.wg ?_;intro w H;exact⟨sB,n+1,sB,⟨aa,λg hg=>by
   by_cases e:g=n
   ·rw[e];exact hone
   exact hno g aa,V3,bu,H.sx⟩,aa⟩
 | some y =>
  obtain⟨R,op⟩:=y;rw[hr]at hres;obtain⟨rfl,hop,bI,gm⟩:=hres;dsimp only at hop bI gm;have hbad:lz (dx n) R op=false->fD n l=none:=λh=>by unfold fD;rw[hr];simp only;rw[ae (by rw[h];decide)]
  have hrl:=bI.len;rw[aW]at hrl;obtain⟨q1,q2,q3⟩:=xK (s:=aY (n/2)) (kA (dx n)) op R;rw[<-(B3 hr).1]at q1 q3;cases R with
  | nil =>
   have hone:=hbad (by unfold lz;simp);rw[aK]at hrl;refine H.wg ?_;intro w H;exact⟨sB,n+1,sB,⟨aa,λg hg=>by
    by_cases e:g=n
    ·rw[e];exact hone
    exact hno g aa,V3,bu,H.sx⟩,aa⟩
  | cons r0 R =>
   obtain rfl:o=op:=hop ah;rw[aq]at hrl;obtain⟨xs,h1,h2⟩:=id bI;have hxl:=h1.len;obtain⟨p0,c0⟩:=h1.aR (g:=λx:Sl=>x.v) (λ_=>rfl) (i:=0) aa;obtain⟨x,hx⟩:∃x,x=xs[0]'aa:=⟨_,rfl⟩
   have fJ:=h2.all 0 (xs[0]'aa) (r0.map Prod.fst) (bz _) rfl;rw[<-hx]at c0 fJ;obtain⟨gs,g1,g2⟩:=fJ;have aeR:=g1.len;rw[g2.len,aW]at aeR;have UF:rs.len=R.length+1:=hrl;by_cases hr2:2<=r0.length;rotate_left
   ·have hone:=hbad (by rw[Cj,bA hr2,qw]);refine H.wg ?_;intro w H;exact⟨sB,n+1,sB,⟨aa,λg hg=>by
     by_cases e:g=n
     ·rw[e];exact hone
     exact hno g aa,V3,bu,H.sx⟩,aa⟩
   rw[aq]at q3;have hrows:∀r∈iF (r0::R),r.length<=100000:=λr hr=>by obtain⟨x,hx,rfl⟩:=cJ.1 hr;have:=Iy hx;rw[aW];omega
   have q8:VB 1048576 (mm (iF (r0::R))):=Ql (by rw[aW,aq];omega) λa ha=>⟨Nat.le_trans (hrows a ha) ai,λy hy=>by obtain⟨x,hx,rfl⟩:=cJ.1 ha;obtain⟨c,hc,rfl⟩:=cJ.1 hy;have:=q2 x hx c hc;rw[<-(B3 hr).1]at this;omega⟩
   have Ia:=Fk (s:=aY (n/2)) (e:=cy (dx n)) o (r0::R) 0;rw[<-(B3 hr).1]at Ia;have hok:=IF (s:=aY (n/2)) (cs:=(r0::R).flatten) aa;have pj:∀m∈qn (aY (n/2)) 0 (r0::R).flatten,m<=1000:=λm hm=>by have:=hok.1 (m:Int) (cJ.2 ⟨m,hm,rfl⟩);omega
   have cD:(qn (aY (n/2)) 0 (r0::R).flatten).length<=1000:=aa;clear q1 q2 Ia hok;by_cases hk:n%2=1
   ·have mH:dx n=true:=bw hk;cases o with
    | true =>
     by_cases iM:R.length=0
     ·have hone:=hbad (by rw[Cj,bA (show ¬1<R.length+1 by omega),mH];simp);refine H.wg ?_;intro w H;exact⟨sB,n+1,sB,⟨aa,λg hg=>by
       by_cases e:g=n
       ·rw[e];exact hone
       exact hno g aa,V3,bu,H.sx⟩,aa⟩
     have fw:lz (dx n) (r0::R) true=true:=by rw[Cj,bw hr2,bw (show 1<R.length+1 by omega)];simp
     have hone:fD n l=some (r0::R,true):=by unfold fD;rw[hr];simp only;rw[ag fw]
     rw[J0 hn hno hone];clear hone fw;unfold tN;refine H.wg ?_;intro w H;refine(I2 H.data bI (by rw[aW,aq];omega) hrows).use ?_;rintro v w⟨V4,h,ar,K,rfl,hv⟩;replace H:=H.cq K;refine H.wn ?_;intro w b8 H;refine H.wg ?_;intro w H;refine(w9 H.data hv q8).use ?_;rintro v w⟨rfl,K⟩;replace H:=H.cq K;have nk:=bu.trans ar;by_cases hvf:(ct (mm (iF (r0::R)))).1=0;rotate_left
     ·rw[ae hvf];refine H.wg ?_;intro w H;exact⟨V4,aV,⟨none,0,0⟩,zeroV,[],nk,H.sx,cG _,aA.nil _ _,rfl⟩
     rw[ag hvf];refine wk ?_;refine dV 12 [4] [0,1,2,3,4,5,6,7] H ?_;intro w H;refine wk ?_;rw[show((n:Int)/2+3*((n:Int)%2)+6)=((gu (n/2) (dx n) true:Nat):Int)by unfold gu;rw[mH];simp only[if_true];omega];have hfl:=(wW (show n/2<3 by omega) (dx n) true).1;refine(JW (fl:=gu (n/2) (dx n) true) H.data aa (gm.up ar) cD pj).use ?_;rintro v w⟨V9,r9,jC,K,rfl,pn⟩;replace H:=H.bd K;refine H.wg ?_;intro w H;exact⟨V9,h,r9,_,_,nk.trans jC,H.sx,hv.up jC,pn,rfl,rfl⟩
    | false =>
     have fw:lz (dx n) (r0::R) false=true:=by rw[Cj,bw hr2];simp
     have hone:fD n l=some (r0::R,false):=by unfold fD;rw[hr];simp only;rw[ag fw]
     rw[J0 hn hno hone];clear hone fw;unfold tN;refine H.wg ?_;intro w H;refine(I2 H.data bI (by rw[aW,aq];omega) hrows).use ?_;rintro v w⟨V4,h,ar,K,rfl,hv⟩;replace H:=H.cq K;refine H.wn ?_;intro w b8 H;refine H.wg ?_;intro w H;refine(w9 H.data hv q8).use ?_;rintro v w⟨rfl,K⟩;replace H:=H.cq K;have nk:=bu.trans ar;by_cases hvf:(ct (mm (iF (r0::R)))).1=0;rotate_left
     ·rw[ae hvf];refine H.wg ?_;intro w H;exact⟨V4,aV,⟨none,0,0⟩,zeroV,[],nk,H.sx,cG _,aA.nil _ _,rfl⟩
     rw[ag hvf];refine wk ?_;refine dV 12 [4] [0,1,2,3,4,5,6,7] H ?_;intro w H;refine wk ?_;rw[show((n:Int)/2+3*((n:Int)%2))=((gu (n/2) (dx n) false:Nat):Int)by unfold gu;rw[mH];simp only[sw,if_true,if_false];omega];have hfl:=(wW (show n/2<3 by omega) (dx n) false).1;refine(JW (fl:=gu (n/2) (dx n) false) H.data aa (gm.up ar) cD pj).use ?_;rintro v w⟨V9,r9,jC,K,rfl,pn⟩;replace H:=H.bd K;refine H.wg ?_;intro w H;exact⟨V9,h,r9,_,_,nk.trans jC,H.sx,hv.up jC,pn,rfl,rfl⟩
   have mH:dx n=false:=bA hk;cases o with
   | true =>
    have fw:lz (dx n) (r0::R) true=true:=by rw[Cj,bw hr2,mH];simp
    have hone:fD n l=some (r0::R,true):=by unfold fD;rw[hr];simp only;rw[ag fw]
    rw[J0 hn hno hone];clear hone fw;unfold tN;refine H.wg ?_;intro w H;refine(I2 H.data bI (by rw[aW,aq];omega) hrows).use ?_;rintro v w⟨V4,h,ar,K,rfl,hv⟩;replace H:=H.cq K;refine H.wn ?_;intro w b8 H;refine H.wg ?_;intro w H;refine(w9 H.data hv q8).use ?_;rintro v w⟨rfl,K⟩;replace H:=H.cq K;have nk:=bu.trans ar;by_cases hvf:(ct (mm (iF (r0::R)))).1=0;rotate_left
    ·rw[ae hvf];refine H.wg ?_;intro w H;exact⟨V4,aV,⟨none,0,0⟩,zeroV,[],nk,H.sx,cG _,aA.nil _ _,rfl⟩
    rw[ag hvf];refine wk ?_;refine dV 12 [4] [0,1,2,3,4,5,6,7] H ?_;intro w H;refine wk ?_;rw[show((n:Int)/2+3*((n:Int)%2)+6)=((gu (n/2) (dx n) true:Nat):Int)by unfold gu;rw[mH];simp only[sw,if_true,if_false];omega];have hfl:=(wW (show n/2<3 by omega) (dx n) true).1;refine(JW (fl:=gu (n/2) (dx n) true) H.data aa (gm.up ar) cD pj).use ?_;rintro v w⟨V9,r9,jC,K,rfl,pn⟩;replace H:=H.bd K;refine H.wg ?_;intro w H;exact⟨V9,h,r9,_,_,nk.trans jC,H.sx,hv.up jC,pn,rfl,rfl⟩
   | false =>
    have fw:lz (dx n) (r0::R) false=true:=by rw[Cj,bw hr2,mH];simp
    have hone:fD n l=some (r0::R,false):=by unfold fD;rw[hr];simp only;rw[ag fw]
    rw[J0 hn hno hone];clear hone fw;unfold tN;refine H.wg ?_;intro w H;refine(I2 H.data bI (by rw[aW,aq];omega) hrows).use ?_;rintro v w⟨V4,h,ar,K,rfl,hv⟩;replace H:=H.cq K;refine H.wn ?_;intro w b8 H;refine H.wg ?_;intro w H;refine(w9 H.data hv q8).use ?_;rintro v w⟨rfl,K⟩;replace H:=H.cq K;have nk:=bu.trans ar;by_cases hvf:(ct (mm (iF (r0::R)))).1=0;rotate_left
    ·rw[ae hvf];refine H.wg ?_;intro w H;exact⟨V4,aV,⟨none,0,0⟩,zeroV,[],nk,H.sx,cG _,aA.nil _ _,rfl⟩
    rw[ag hvf];refine wk ?_;refine dV 12 [4] [0,1,2,3,4,5,6,7] H ?_;intro w H;refine wk ?_;rw[show((n:Int)/2+3*((n:Int)%2))=((gu (n/2) (dx n) false:Nat):Int)by unfold gu;rw[mH];simp only[sw,if_false];omega];have hfl:=(wW (show n/2<3 by omega) (dx n) false).1;refine(JW (fl:=gu (n/2) (dx n) false) H.data aa (gm.up ar) cD pj).use ?_;rintro v w⟨V9,r9,jC,K,rfl,pn⟩;replace H:=H.bd K;refine H.wg ?_;intro w H;exact⟨V9,h,r9,_,_,nk.trans jC,H.sx,hv.up jC,pn,rfl,rfl⟩
end Go.Proofs.YtmoiobegbpkkbaaGreatDoor
