import Derived.Test.YtmoiobegbpkkbaaGreatDoorTAG
import Derived.Test.YtmoiobegbpkkbaaGreatDoorTAH
open Bool renaming true_and->oJ,and_eq_true->eD,false_and->qw
open Go.Lib renaming or_mask->OP
open Go.Value renaming int->bO,bool->ic
open Int renaming toNat_natCast->jr,toNat->gR
open List renaming all_eq_true->bc,mem_cons->bP,append_nil->aZ,length_nil->aK,take_append_drop->eW,getElem?_eq_some_iff->dH,length_cons->aq,take_of_length_le->bJ,drop_of_length_le->fc,append_assoc->bj,cons_append->bb,nil_append->aL,mem_map->cJ,length_append->ak,length_take->bg,length_drop->aU,take_zero->kM,length_singleton->bT,length->bU,flatMap_cons->bD,mem_append->cc,eq_nil_of_length_eq_zero->dt,getElem_mem->bS,set_cons_succ->fa,take_succ_eq_append_getElem->bK,take_length->fA,drop_eq_getElem_cons->dk,flatMap_append->cw,flatMap_nil->eL,length_pos_iff->iC,getElem?_eq_getElem->bz,drop_zero->lj,set_cons_zero->bH,length_map->aW,map_append->dU,map_nil->lk,set_append_right->Jd,filter_append->OJ,flatMap_singleton->Fg
open Nat renaming le_refl->aQ,add_zero->ln,mul_le_mul_right->kr,zero_mul->zi,mul_comm->lP,zero_add->dR,zero_le->cE,min_eq_left->tB
open UInt8 renaming ofNat->aD,toNat_inj->bL,toNat_lt->dm
namespace Go.Proofs.YtmoiobegbpkkbaaGreatDoor
open Go Go.RowKit
set_option maxRecDepth 100000
set_option maxHeartbeats 8000000
variable{W:ad}
variable{x a n p e:Nat}{s:Sl}{l L b:ab}{α:Type}{V w:ad}{own:cx}{cs:List cu}{k:aj->ad->Prop}{c:cu}
theorem zV(hx:x<256){p:Int}(q:Nat)(hp:p=(q:Int))(hq:q<=72057594037927936):wr .u64 (wr .u64 (x:Int)*p)=((x*q:Nat):Int):=by subst hp;have:x*q<=255*72057594037927936:=Nat.mul_le_mul aa hq;show((x:Int)%18446744073709551616*q)%18446744073709551616=_;rw[show(x:Int)%18446744073709551616=x by omega,<-Int.natCast_mul];omega
theorem amr(hx:x<18446744073709551616):wr .u64 (x:Int)=x:=by show(x:Int)%18446744073709551616=_;omega
theorem aaJ:∀x:Nat,x<256->cI .and .u8 (x:Int) 7=((x%8:Nat):Int):=by decide +kernel
def IV(T:List TD)(ops:List Oper)(xs ys:au):au->Bool
 | []=>true
 | x::r=>(match ops[x]? with
  | some ox=>r.all λi=>(match ops[i]? with
   | some oi=>vu T ops.toArray xs ys x ox i oi
   | none=>false)||(nb ops ops.length i).contains x
  | none=>false)&&IV T ops xs ys r
theorem Wj(T:List TD)(ops:List Oper)(xs ys:au):∀r,IV T ops xs ys r=rS T ops xs ys r
 | []=>rfl
 | x::r=>by
  unfold IV rS;rw[Wj T ops xs ys r];congr 1;cases ops[x]? with
  | none=>rfl
  | some ox =>simp only;congr 1;funext i;exact Bool.or_comm _ _
def Oh(T:List TD)(ops:List Oper)(xs ys π:au):Bool :=
 qL ops π&&IV T ops xs ys π&&((List.range ops.length).all λi=>π.contains i)&&decide (π.length=ops.length)&&decide π.Nodup&&π.all λi=>decide (i<ops.length)
theorem ag9(T:List TD)(ops:List Oper)(xs ys π:au):Oh T ops xs ys π=wo T ops xs ys π:=by unfold Oh wo;rw[Wj]
theorem eJ{C:Cx}(hT:cg C.P C.T)(hm:C.P.follows .mixedOrders=true){id:Nat}{ops:Array Oper}{env:Env}{ds:List Deferred}{w:ad}{Q:iJ}(xs π:au)
  (hok:Oh C.T ops.toList xs π π=true)
  (h:∀w1,CB w w1->zN C ops.toList xs π env w1 (λaO w'=>mO aO C.live λe'=>Q .normal e' ds w') (λch w'=>Q (.panic ch) [] ds w')) :
  aM C (.region id ops true) env ds w Q:=Sr hT hm xs π (by rw[<-ag9];exact hok) h
structure aax(W V:ad)(n:Nat)(v:aj)(w':ad):Prop where
 v:v=.int .u64 (n:Int)
 rel:Rel W V [] V w'
theorem zU(hV:Sub V W){s:Sl}{l:ab}(hs:aF V s l)(h8:8<=l.length):aB 204 [s.v] W (aax W V (Lib.leNat (l.take 8))):=by
 have H:=aG hV;have hlen:=hs.len;obtain⟨a0,a1,a2,a3,a4,a5,a6,a7,r,rfl⟩:∃a0 a1 a2 a3 a4 a5 a6 a7 r,l=a0::a1::a2::a3::a4::a5::a6::a7::r:=by
  match l,h8 with
  | a0::a1::a2::a3::a4::a5::a6::a7::r,_=>exact⟨_,_,_,_,_,_,_,_,_,rfl⟩
 obtain⟨p0,c0⟩:=hs.aR (g:=bv) (i:=0) (λ_=>rfl) aa;obtain⟨_,c1⟩:=hs.aR (g:=bv) (i:=1) (λ_=>rfl) aa;obtain⟨_,c2⟩:=hs.aR (g:=bv) (i:=2) (λ_=>rfl) aa;obtain⟨_,c3⟩:=hs.aR (g:=bv) (i:=3) (λ_=>rfl) aa;obtain⟨_,c4⟩:=hs.aR (g:=bv) (i:=4) (λ_=>rfl) aa;obtain⟨_,c5⟩:=hs.aR (g:=bv) (i:=5) (λ_=>rfl) aa;obtain⟨_,c6⟩:=hs.aR (g:=bv) (i:=6) (λ_=>rfl) aa;obtain⟨_,c7⟩:=hs.aR (g:=bv) (i:=7) (λ_=>rfl) aa;simp only[List.getElem_cons_zero,List.getElem_cons_succ]at c0 c1 c2 c3 c4 c5 c6 c7;have z0:=a0.toNat_lt;have z1:=a1.toNat_lt;have z2:=a2.toNat_lt;have z3:=a3.toNat_lt;have z4:=a4.toNat_lt;have z5:=a5.toNat_lt;have z6:=a6.toNat_lt;have z7:=a7.toNat_lt;refine eV Tryz.func204 71 [0,2] ?_;refine wk ?_;refine dV 2 [] [0,1,2,3,4,5,6,7,8,9,10,11,12,13,14,15,16,17,18,19,20,21,22,23,24,25,26,27,28,29,30,31,32,33,34,35,36,37,38,39,40,41,42,43,44,45,46] H ?_;intro w H;refine wk ?_;have w1:=zV z1 (p:=2^min (gR 8) IntKind.u64.bits) 256 ai ai;have w2:=zV z2 (p:=2^min (gR 16) IntKind.u64.bits) 65536 ai ai;have w3:=zV z3 (p:=2^min (gR 24) IntKind.u64.bits) 16777216 ai ai;have w4:=zV z4 (p:=2^min (gR 32) IntKind.u64.bits) 4294967296 ai ai;have w5:=zV z5 (p:=2^min (gR 40) IntKind.u64.bits) 1099511627776 ai ai;have w6:=zV z6 (p:=2^min (gR 48) IntKind.u64.bits) 281474976710656 ai ai;have w7:=zV z7 (p:=2^min (gR 56) IntKind.u64.bits) 72057594037927936 ai ai;rw[amr (show a0.toNat<18446744073709551616 by omega),w1,w2,w3,w4,w5,w6,w7];have o1:=wm (u:=a0.toNat) (x:=a1.toNat) (j:=8) (by simp only[Nat.reducePow];omega) (by simp only[Nat.reducePow];omega) aa;have o2:=wm (u:=a0.toNat+a1.toNat*256) (x:=a2.toNat) (j:=16) (by simp only[Nat.reducePow];omega) (by simp only[Nat.reducePow];omega) aa;have o3:=wm (u:=a0.toNat+a1.toNat*256+a2.toNat*65536) (x:=a3.toNat) (j:=24) (by simp only[Nat.reducePow];omega) (by simp only[Nat.reducePow];omega) aa;have o4:=wm (u:=a0.toNat+a1.toNat*256+a2.toNat*65536+a3.toNat*16777216) (x:=a4.toNat) (j:=32) (by simp only[Nat.reducePow];omega) (by simp only[Nat.reducePow];omega) aa;have o5:=wm (u:=a0.toNat+a1.toNat*256+a2.toNat*65536+a3.toNat*16777216+a4.toNat*4294967296) (x:=a5.toNat) (j:=40) (by simp only[Nat.reducePow];omega) (by simp only[Nat.reducePow];omega) aa;have o6:=wm (u:=a0.toNat+a1.toNat*256+a2.toNat*65536+a3.toNat*16777216+a4.toNat*4294967296+a5.toNat*1099511627776) (x:=a6.toNat) (j:=48) (by simp only[Nat.reducePow];omega) (by simp only[Nat.reducePow];omega) aa;have o7:=wm (u:=a0.toNat+a1.toNat*256+a2.toNat*65536+a3.toNat*16777216+a4.toNat*4294967296+a5.toNat*1099511627776+a6.toNat*281474976710656) (x:=a7.toNat) (j:=56) (by simp only[Nat.reducePow];omega) (by simp only[Nat.reducePow];omega) aa;simp only[Nat.reducePow]at o1 o2 o3 o4 o5 o6 o7;rw[o1,o2,o3,o4,o5,o6,o7];refine⟨ax (λz:Nat=>bO .u64 (z:Int)) ?_,H⟩;simp only[List.take_succ_cons,kM,Lib.leNat];omega
theorem xt(h:aF V s l){i:Nat}(hi:i<l.length):Plain s.a/\V.cell? ⟨bW s.a,bM s.a+i,none⟩=some (.int .u8 (at8 l i:Nat)):=by obtain⟨p,c⟩:=h.aR (g:=bv) (λ_=>rfl) hi;rw[qU hi];exact⟨p,c⟩
theorem aF.full(h:aF V s l):aF V ⟨bo s.a 0 s.len 1,s.len,s.len⟩ l:=by
 refine⟨h.len,aQ _,λhne=>?_,λj v hj=>?_⟩
 ·have hp:Plain s.a:=h.cells.1 hne;exact(zx hp:Plain (bo s.a 0 s.len 1))
 have hp:Plain s.a:=h.cells.1 (λe=>by rw[e]at hj;simp at hj);have hc:=h.cells.2 j v hj;have ho:bM (bo s.a 0 s.len 1)=bM s.a:=by
  by_cases hz:s.len=0
  ·unfold bo;rw[ag hz]
  rw[zw hp hz,zi,ln]
 show V.cell? ⟨bW (bo s.a 0 s.len 1),bM (bo s.a 0 s.len 1)+j,none⟩=some v;rw[zv,ho];exact hc
theorem abm:∀(n:Nat) {L:ab},n<=L.length->(∀b∈L.take n,b.toNat<128)->(chars L).isSome=(chars (L.drop n)).isSome:=λn L _ h=>by rw[<-F4 _ (aQ _),<-F4 _ (aQ _)];exact Lib.validD_ascii n L h
theorem zS(h8:8<=L.length)(hz:Lib.leNat (L.take 8)&&&9259542123273814144=0):∀b∈L.take 8,b.toNat<128:=by have:=Lib.leNat_mask (L.take 8);rw[bg,tB h8,Lib.maskN8]at this;exact this.1 hz
theorem zT(L:ab):Lib.leNat (L.take 8)<18446744073709551616:=by
 have h:=Lib.leNat_lt (L.take 8);have:(L.take 8).length<=8:=by rw[bg];omega
 have h2:256^(L.take 8).length<=256^8:=Nat.pow_le_pow_right ai this;simp only[Nat.reducePow]at h2;omega
abbrev DV:Nat:=9259542123273814144
theorem KE(h:a<18446744073709551616):cI .and .u64 (a:Int) 9259542123273814144=((a&&&DV:Nat):Int):=u64_and_nat a DV h ai
theorem IL{b:Nat}(h:a<18446744073709551616)(k:b<18446744073709551616):cI .or .u64 (a:Int) (b:Int)=((a|||b:Nat):Int):=u64_or_nat a b h k
theorem Bz{b:Nat}(h:a<18446744073709551616)(k:b<18446744073709551616):a|||b<18446744073709551616:=Nat.or_lt_two_pow (n:=64) h k
theorem Gx{m:Nat}(h:∀b∈L.take m,b.toNat<128)(k:∀b∈(L.drop m).take n,b.toNat<128):∀b∈L.take (m+n),b.toNat<128:=by
 rw[List.take_add];intro b hb;rcases cc.1 hb with hb|hb
 ·exact h b hb
 exact k b hb
structure Af(V:ad)(l:ab)(p:Sl)(L:ab):Prop where
 j4:aF V p L
 le:L.length<=l.length
 same:(chars l).isSome=(chars L).isSome
theorem Af.rest{p:Sl}(h:Af V l p L){n:Nat}(hn:n<=L.length)(ha:∀b∈L.take n,b.toNat<128):Af V l ⟨bo p.a n p.cap 1,p.len-n,p.cap-n⟩ (L.drop n):=by have h1:=h.j4.len;have h2:=h.j4.cap;refine⟨?_,by rw[aU];have:=h.le;omega,by rw[h.same,abm n hn ha]⟩;have:=h.j4.sub (n:=1) (λ_=>rfl) (a:=n) (b:=p.len) aa aa;rw[h1,fA]at this;rw[h1];exact this
theorem Zx(hV:Sub V W)(hT:Lib.Utf8Tabs 0 1 V){s:Sl}{l:ab}(hs:aF V s l)(hl:l.length<=1000000000):aB 126 [s.v] W λv w'=>v=.bool (chars l).isSome/\Rel W V [] V w':=by
 have H:=aG hV;have hlen:=hs.len;have og:=hs.cap;refine eV Tryz.func126 188 [0,2,3,4,5,6,15,20,31,46,69,82,83,103,106,138,141,185] ?_;refine wk ?_;refine aP (S:=Sl×ab) al [] (λq=>[(0,q.1.v)]) (λq w'=>Af V l q.1 q.2/\Rel W V [] V w') (λq _=>q.2.length) (⟨bo s.a 0 s.len 1,s.len,s.len⟩,l) ?_;conv=>whnf
 refine⟨sB,⟨⟨hs.full,aQ _,rfl⟩,H⟩,?_⟩;clear H;rintro⟨p,L⟩w⟨hI,H⟩;dsimp only at hI H |-;have hp:=hI.j4;have hpl:=hp.len;have M6:=hp.cap;have hle:=hI.le;by_cases hn:L=[]
 ·subst hn;rw[aK]at hpl;rw[hI.same];refine wk ?_;exact H.sx
 have hpos:=iC.2 hn;obtain⟨q0,c0⟩:=xt hp (i:=0) hpos;have z0:at8 L 0<256:=dm _;refine wk ?_;by_cases adN:at8 L 0<128
 ·have Dm:=hI.rest (n:=1) aa (by
   cases L with
   | nil=>simp
   | cons a r =>intro b hb;simp at hb;rw[hb];exact adN)
  obtain⟨L1,AN⟩:∃L1,L1=L.drop 1:=⟨_,rfl⟩
  have amM:L1.length+1=L.length:=by rw[AN,aU];omega
  rw[<-AN]at Dm;have b1:=Dm.j4;have b1l:=b1.len;have b1c:=b1.cap;dsimp only at b1l b1c;refine wk ?_;by_cases h8:8<L1.length;rotate_left
  ·refine wk ?_;exact⟨sB,(⟨bo p.a 1 p.cap 1,p.len-1,p.cap-1⟩,L1),sB,⟨Dm,H.sx⟩,by dsimp only;omega⟩
  refine wk ?_;refine(zU H.data b1 aa).use ?_;rintro v w⟨rfl,K⟩;replace H:=H.bd K;obtain⟨N1,Hr⟩:∃N,N=Lib.leNat (L1.take 8):=⟨_,rfl⟩
  have TB:=zT L1;rw[<-Hr]at TB |-;refine wk ?_;rw[KE TB];refine wk ?_;by_cases v7:N1&&&DV=0;rotate_left
  ·refine wk ?_;exact⟨sB,(⟨bo p.a 1 p.cap 1,p.len-1,p.cap-1⟩,L1),sB,⟨Dm,H.sx⟩,by dsimp only;omega⟩
  have Dn:=Dm.rest (n:=8) aa (zS aa (by rw[<-Hr];exact v7));obtain⟨L2,Hq⟩:∃L2,L2=L1.drop 8:=⟨_,rfl⟩
  have amN:L2.length+8=L1.length:=by rw[Hq,aU];omega
  rw[<-Hq]at Dn;have b2:=Dn.j4;have QZ:=b2.len;have b2c:=b2.cap;dsimp only at Dn b2 QZ b2c;refine wk ?_;have hb8:8<=L2.length->aF V ⟨bo (bo (bo p.a 1 p.cap 1) 8 (p.cap-1) 1) 8 (p.cap-1-8) 1,(p.len-1-8)-8,(p.cap-1-8)-8⟩ (L2.drop 8):=λh=>by have:=b2.sub (n:=1) (λ_=>rfl) (a:=8) (b:=L2.length) aa aa;rw[fA]at this;rw[QZ];exact this
  obtain⟨B,hB⟩:∃B:Bool,B=(decide (16<L2.length)&&decide ((Lib.leNat (L2.take 8)|||Lib.leNat ((L2.drop 8).take 8))&&&DV=0)):=⟨_,rfl⟩
  refine aM.C4 (λ_:Unit=>[(0,.slice (bo (bo p.a 1 p.cap 1) 8 (p.cap-1) 1) (p.len-1-8) (p.cap-1-8)),(46,.bool B)]) (λ_ w'=>Rel W V [] V w') ?_ ?_
  ·refine dX (id:=8) V [] [] [0,1,2,3,4,6,7,5,8,9,10,11,12] [(5,[]),(8,[5])] H ?_;intro w H;by_cases h16:16<L2.length
   ·rw[bw h16,oJ]at hB;obtain⟨N2,Du⟩:∃N,N=Lib.leNat (L2.take 8):=⟨_,rfl⟩
    obtain⟨N3,Dv⟩:∃N,N=Lib.leNat ((L2.drop 8).take 8):=⟨_,rfl⟩
    have vI:=zT L2;have vJ:=zT (L2.drop 8);have adS:=hb8 aa;have yc:8<=(L2.drop 8).length:=by rw[aU];omega
    rw[<-Du]at hB vI;rw[<-Dv]at hB vJ;rw[hB];repeat' (refine wk ?_;first|(first|refine Kv.go H ?_|refine Kv.go2 H (by assumption) ?_|refine jI ?_|refine And.intro ?_ ?_|(refine H.nA ?_;intro w _ H))|(refine(zU H.data b2 aa).use ?_;rintro v w⟨rfl,K⟩;(replace H:=H.bd K);rw[<-Du])|(refine(zU H.data adS yc).use ?_;rintro v w⟨rfl,K⟩;(replace H:=H.bd K);rw[<-Dv]))
    conv=>whnf
    refine⟨rfl,(),⟨rfl,?_,trivial⟩,H.sx⟩;rw[IL vI vJ,KE (Bz vI vJ)];exact ax (λz=>some (ic z)) (decide_eq_decide.2 aa)
   rw[bA h16,qw]at hB;rw[hB];refine wk ?_;exact⟨(),sB,H.sx⟩
  clear H;rintro _ w H;cases hBc:B with
  | false =>refine wk ?_;exact⟨sB,(⟨(bo (bo p.a 1 p.cap 1) 8 (p.cap-1) 1),(p.len-1-8),(p.cap-1-8)⟩,L2),sB,⟨Dn,H.sx⟩,by dsimp only;omega⟩
  | true =>
  rw[hBc]at hB;replace hB:=hB.symm;simp only[eD,eQ]at hB;obtain⟨h16,lK⟩:=hB;obtain⟨MY,aex⟩:=(OP _ _ _).1 lK;have yc:8<=(L2.drop 8).length:=by rw[aU];omega
  have Tu:=Dn.rest (n:=16) aa (Gx (m:=8) (n:=8) (zS aa MY) (zS yc aex));obtain⟨L3,Tv⟩:∃L3,L3=L2.drop 16:=⟨_,rfl⟩
  have amO:L3.length+16=L2.length:=by rw[Tv,aU];omega
  rw[<-Tv]at Tu;refine wk ?_;refine aP (S:=Sl×ab) al [2,3,4,5,6,15,20,31,46,82,83,103,106,138,141,185] (λq=>[(0,q.1.v)]) (λq w'=>Af V l q.1 q.2/\q.2.length<L.length/\Rel W V [] V w') (λq _=>q.2.length) (⟨bo (bo (bo p.a 1 p.cap 1) 8 (p.cap-1) 1) 16 (p.cap-1-8) 1,(p.len-1-8)-16,(p.cap-1-8)-16⟩,L3) ?_;conv=>whnf
  refine⟨sB,⟨Tu,by dsimp only;omega,H⟩,?_⟩;clear H;rintro⟨p4,L4⟩w⟨Dp,Tx,H⟩;dsimp only at Dp Tx H |-;have b4:=Dp.j4;have b4l:=b4.len;have b4c:=b4.cap;have b4e:=Dp.le;have hsub:∀k,k<=L4.length->aF V ⟨bo p4.a k p4.cap 1,p4.len-k,p4.cap-k⟩ (L4.drop k):=λk h=>by have:=b4.sub (n:=1) (λ_=>rfl) (a:=k) (b:=L4.length) h aa;rw[fA]at this;rw[b4l];exact this
  obtain⟨B4,oZ⟩:∃B:Bool,B=(decide (32<L4.length)&&decide (((Lib.leNat (L4.take 8)|||Lib.leNat ((L4.drop 8).take 8))|||(Lib.leNat ((L4.drop 16).take 8)|||Lib.leNat ((L4.drop 24).take 8)))&&&DV=0)):=⟨_,rfl⟩
  conv=>whnf
  refine aM.C4 (λ_:Unit=>[(0,p4.v),(46,.bool true),(69,.bool B4)]) (λ_ w'=>Rel W V [] V w') ?_ ?_
  ·refine dX (id:=10) V [] [] [0,1,2,3,4,6,7,10,11,13,14,5,8,9,12,15,16,17,18,19,20] [(5,[]),(8,[5]),(12,[5,8]),(15,[5,8,12])] H ?_;intro w H;by_cases h32:32<L4.length
   ·rw[bw h32,oJ]at oZ;obtain⟨N2,Du⟩:∃N,N=Lib.leNat (L4.take 8):=⟨_,rfl⟩
    obtain⟨N3,Dv⟩:∃N,N=Lib.leNat ((L4.drop 8).take 8):=⟨_,rfl⟩
    obtain⟨N4,TC⟩:∃N,N=Lib.leNat ((L4.drop 16).take 8):=⟨_,rfl⟩
    obtain⟨N5,TE⟩:∃N,N=Lib.leNat ((L4.drop 24).take 8):=⟨_,rfl⟩
    have vI:=zT L4;have vJ:=zT (L4.drop 8);have Ht:=zT (L4.drop 16);have Hu:=zT (L4.drop 24);have g1:=hsub 8 aa;have g2:=hsub 16 aa;have g3:=hsub 24 aa;have d1:8<=(L4.drop 8).length:=by rw[aU];omega
    have d2:8<=(L4.drop 16).length:=by rw[aU];omega
    have d3:8<=(L4.drop 24).length:=by rw[aU];omega
    rw[<-Du]at oZ vI;rw[<-Dv]at oZ vJ;rw[<-TC]at oZ Ht;rw[<-TE]at oZ Hu;rw[oZ];repeat' (refine wk ?_;first|(first|refine Kv.go H ?_|refine Kv.go2 H (by assumption) ?_|refine jI ?_|refine And.intro ?_ ?_|(refine H.nA ?_;intro w _ H))|(refine(zU H.data b4 aa).use ?_;rintro v w⟨rfl,K⟩;(replace H:=H.bd K);rw[<-Du])|(refine(zU H.data g1 d1).use ?_;rintro v w⟨rfl,K⟩;(replace H:=H.bd K);rw[<-Dv])|(refine(zU H.data g2 d2).use ?_;rintro v w⟨rfl,K⟩;(replace H:=H.bd K);rw[<-TC])|(refine(zU H.data g3 d3).use ?_;rintro v w⟨rfl,K⟩;(replace H:=H.bd K);rw[<-TE]))
    conv=>whnf
    refine⟨rfl,(),⟨rfl,rfl,?_,trivial⟩,H.sx⟩;rw[IL vI vJ,IL Ht Hu,IL (Bz vI vJ) (Bz Ht Hu),KE (Bz (Bz vI vJ) (Bz Ht Hu))];exact ax (λz=>some (ic z)) (decide_eq_decide.2 aa)
   rw[bA h32,qw]at oZ;rw[oZ];refine wk ?_;exact⟨(),sB,H.sx⟩
  clear H;rintro _ w H;cases adC:B4 with
  | false =>refine wk ?_;exact⟨sB,(p4,L4),sB,⟨Dp,H.sx⟩,Tx⟩
  | true =>
  rw[adC]at oZ;replace oZ:=oZ.symm;simp only[eD,eQ]at oZ;obtain⟨h32,aey⟩:=oZ;obtain⟨aez,aeA⟩:=(OP _ _ _).1 aey;obtain⟨r1,r2⟩:=(OP _ _ _).1 aez;obtain⟨r3,r4⟩:=(OP _ _ _).1 aeA;have d1:8<=(L4.drop 8).length:=by rw[aU];omega
  have d2:8<=(L4.drop 16).length:=by rw[aU];omega
  have d3:8<=(L4.drop 24).length:=by rw[aU];omega
  have a2:=Gx (m:=8) (n:=8) (zS aa r1) (zS d1 r2);have a3:=Gx (m:=16) (n:=8) a2 (zS d2 r3);have a4:=Gx (m:=24) (n:=8) a3 (zS d3 r4);have hI5:=Dp.rest (n:=32) aa a4;refine wk ?_;exact⟨sB,(⟨bo p4.a 32 p4.cap 1,p4.len-32,p4.cap-32⟩,L4.drop 32),sB,⟨hI5,by dsimp only;rw[aU];omega,H.sx⟩,by dsimp only;rw[aU];omega⟩
 have vT:=Lib.validD_lead L hn (by rw[s6];omega);rw[s6,s6,s6,s6,F4 _ (aQ _)]at vT;have c1:=hT.1 (at8 L 0) z0;have hfl:=Lib.firstT_cases (at8 L 0);obtain⟨x,hx⟩:∃x,x=Lib.firstT (at8 L 0):=⟨_,rfl⟩
 rw[<-hx]at vT c1 hfl;have aeS:x<256:=aa;obtain⟨c2,c3⟩:=hT.2 (x/16) aa;obtain⟨lo,uD⟩:∃lo,lo=Lib.accLo (x/16):=⟨_,rfl⟩
 obtain⟨hi,kK⟩:∃hi,hi=Lib.accHi (x/16):=⟨_,rfl⟩
 rw[<-uD]at vT c2;rw[<-kK]at vT c3;obtain⟨sz,hsz⟩:∃sz,sz=x%8:=⟨_,rfl⟩
 rw[<-hsz]at vT;have c1':V.cell? ⟨0,0+at8 L 0,none⟩=some (.int .u8 (x:Int)):=by rw[dR];exact c1
 have c2':V.cell? ⟨1,0+x/16*2,none⟩=some (.int .u8 (lo:Int)):=by rw[dR,lP];exact c2
 have c3':V.cell? ⟨1,0+x/16*2+1,none⟩=some (.int .u8 (hi:Int)):=by rw[dR,lP];exact c3
 have e7:=aaJ x aeS;rw[<-hsz]at e7;refine wk ?_;rw[e7];refine wk ?_;rw[show(x:Int)/2^min (gR 4) IntKind.u8.bits=((x/16:Nat):Int)from rfl];refine H.wn ?_;intro w b6 H;have bad:Lib.checkN L.length (at8 L 1) (at8 L 2) (at8 L 3) sz lo hi=none->(chars l).isSome=false:=λh=>by rw[hI.same,vT,h]
 have good:∀k,k<=L.length->1<=k->Lib.checkN L.length (at8 L 1) (at8 L 2) (at8 L 3) sz lo hi=some k->Af V l ⟨bo p.a k p.cap 1,p.len-k,p.cap-k⟩ (L.drop k):=λk hk _ h=>by refine⟨?_,by rw[aU];omega,by rw[hI.same,vT,h];exact F4 _ (aQ _)⟩;have:=hp.sub (n:=1) (λ_=>rfl) (a:=k) (b:=L.length) hk aa;rw[fA]at this;rw[hpl];exact this
 have k1:at8 L 1<256:=dm _;have k2:at8 L 2<256:=dm _;have k3:at8 L 3<256:=dm _;clear vT;by_cases s2:sz=2
 ·have u:∀ {a b c d:Nat},Lib.checkN a b c d sz lo hi=if a<2\/b<lo\/hi<b then none else some 2:=λ{a b c d}=>by unfold Lib.checkN;rw[ag s2]
  by_cases h2:L.length<2
  ·rw[bad (by rw[u,ag aa])];refine H.wg ?_;intro w H;refine eJ (id:=18) al mixed [] [0,1,2,3,4,5,6,7,8,9,10,11,12,13,14,15,16,17,18] av ?_;intro w bG;replace H:=Rel.ext H bG.ext;refine wk ?_;exact H.sx
  obtain⟨q1,d1⟩:=xt hp (i:=1) aa;by_cases g1:at8 L 1<lo
  ·rw[bad (by rw[u,ag aa])];refine H.wg ?_;intro w H;refine eJ (id:=18) al mixed [] [0,1,2,3,4,5,6,7,8,9,10,11,12,13,14,15,16,17,18] av ?_;intro w bG;replace H:=Rel.ext H bG.ext;refine wk ?_;exact H.sx
  by_cases g2:hi<at8 L 1
  ·rw[bad (by rw[u,ag aa])];refine H.wg ?_;intro w H;refine eJ (id:=18) al mixed [] [0,1,2,3,4,5,6,7,8,9,10,11,12,13,14,15,16,17,18] av ?_;intro w bG;replace H:=Rel.ext H bG.ext;refine wk ?_;exact H.sx
  refine H.wg ?_;intro w H;refine eJ (id:=18) al mixed [] [0,1,2,3,4,5,6,7,8,9,10,11,12,13,14,15,16,17,18] av ?_;intro w bG;replace H:=Rel.ext H bG.ext;refine wk ?_;exact⟨sB,(⟨bo p.a 2 p.cap 1,p.len-2,p.cap-2⟩,L.drop 2),sB,⟨good 2 aa aa (by rw[u,ae aa]),H.sx⟩,by dsimp only;rw[aU];omega⟩
 by_cases s3:sz=3
 ·have u:∀ {a b c d:Nat},Lib.checkN a b c d sz lo hi=if a<3\/b<lo\/hi<b\/c<128\/191<c then none else some 3:=λ{a b c d}=>by unfold Lib.checkN;rw[ae s2,ag s3]
  by_cases h2:L.length<3
  ·rw[bad (by rw[u,ag aa])];refine H.wg ?_;intro w H;refine eJ (id:=22) al mixed [] [0,1,2,3,4,5,6,7,8,9,10,11,12,13,14,15,16,17,18,19,20,21,22,23,24,25,26,27,28,29,30] av ?_;intro w bG;replace H:=Rel.ext H bG.ext;refine wk ?_;exact H.sx
  obtain⟨q1,d1⟩:=xt hp (i:=1) aa;obtain⟨q2,d2⟩:=xt hp (i:=2) aa;by_cases g1:at8 L 1<lo
  ·rw[bad (by rw[u,ag aa])];refine H.wg ?_;intro w H;refine eJ (id:=22) al mixed [] [0,1,2,3,4,5,6,7,8,9,10,11,12,13,14,15,16,17,18,19,20,21,22,23,24,25,26,27,28,29,30] av ?_;intro w bG;replace H:=Rel.ext H bG.ext;refine wk ?_;exact H.sx
  by_cases g2:hi<at8 L 1
  ·rw[bad (by rw[u,ag aa])];refine H.wg ?_;intro w H;refine eJ (id:=22) al mixed [] [0,1,2,3,4,5,6,7,8,9,10,11,12,13,14,15,16,17,18,19,20,21,22,23,24,25,26,27,28,29,30] av ?_;intro w bG;replace H:=Rel.ext H bG.ext;refine wk ?_;exact H.sx
  by_cases g3:at8 L 2<128
  ·rw[bad (by rw[u,ag aa])];refine H.wg ?_;intro w H;refine eJ (id:=22) al mixed [] [0,1,2,3,4,5,6,7,8,9,10,11,12,13,14,15,16,17,18,19,20,21,22,23,24,25,26,27,28,29,30] av ?_;intro w bG;replace H:=Rel.ext H bG.ext;refine wk ?_;exact H.sx
  by_cases g4:191<at8 L 2
  ·rw[bad (by rw[u,ag aa])];refine H.wg ?_;intro w H;refine eJ (id:=22) al mixed [] [0,1,2,3,4,5,6,7,8,9,10,11,12,13,14,15,16,17,18,19,20,21,22,23,24,25,26,27,28,29,30] av ?_;intro w bG;replace H:=Rel.ext H bG.ext;refine wk ?_;exact H.sx
  refine H.wg ?_;intro w H;refine eJ (id:=22) al mixed [] [0,1,2,3,4,5,6,7,8,9,10,11,12,13,14,15,16,17,18,19,20,21,22,23,24,25,26,27,28,29,30] av ?_;intro w bG;replace H:=Rel.ext H bG.ext;refine wk ?_;exact⟨sB,(⟨bo p.a 3 p.cap 1,p.len-3,p.cap-3⟩,L.drop 3),sB,⟨good 3 aa aa (by rw[u,ae aa]),H.sx⟩,by dsimp only;rw[aU];omega⟩
 by_cases s4:sz=4
 ·have u:∀ {a b c d:Nat},Lib.checkN a b c d sz lo hi=if a<4\/b<lo\/hi<b\/c<128\/191<c\/d<128\/191<d then none else some 4:=λ{a b c d}=>by unfold Lib.checkN;rw[ae s2,ae s3,ag s4]
  by_cases h2:L.length<4
  ·rw[bad (by rw[u,ag aa])];refine H.wg ?_;intro w H;refine eJ (id:=26) al mixed [] [0,1,2,3,4,5,6,7,8,9,10,11,12,13,14,15,16,17,18,19,20,21,22,23,24,25,26,27,28,29,30,31,32,33,34,35,36,37,38,39,40,41,42] av ?_;intro w bG;replace H:=Rel.ext H bG.ext;refine wk ?_;exact H.sx
  obtain⟨q1,d1⟩:=xt hp (i:=1) aa;obtain⟨q2,d2⟩:=xt hp (i:=2) aa;obtain⟨q3,d3⟩:=xt hp (i:=3) aa;refine H.wg ?_;intro w H;refine eJ (id:=26) al mixed [] [0,1,2,3,4,5,6,7,8,9,10,11,12,13,14,15,16,17,18,19,20,21,22,23,24,25,26,27,28,29,30,31,32,33,34,35,36,37,38,39,40,41,42] av ?_;intro w bG;replace H:=Rel.ext H bG.ext;refine wk ?_;refine gj (λg1=>?_) (λg1=>?_)
  ·rw[bad (by rw[u,ag aa])];refine wk ?_;exact H.sx
  refine wk ?_;refine gj (λg2=>?_) (λg2=>?_)
  ·rw[bad (by rw[u,ag aa])];refine wk ?_;exact H.sx
  refine wk ?_;refine gj (λg3=>?_) (λg3=>?_)
  ·rw[bad (by rw[u,ag aa])];refine wk ?_;exact H.sx
  refine wk ?_;refine gj (λg4=>?_) (λg4=>?_)
  ·rw[bad (by rw[u,ag aa])];refine wk ?_;exact H.sx
  refine wk ?_;refine gj (λg5=>?_) (λg5=>?_)
  ·rw[bad (by rw[u,ag aa])];refine wk ?_;exact H.sx
  refine wk ?_;refine gj (λg6=>?_) (λg6=>?_)
  ·rw[bad (by rw[u,ag aa])];refine wk ?_;exact H.sx
  refine wk ?_;exact⟨sB,(⟨bo p.a 4 p.cap 1,p.len-4,p.cap-4⟩,L.drop 4),sB,⟨good 4 aa aa (by rw[u,ae aa]),H.sx⟩,by dsimp only;rw[aU];omega⟩
 have u:Lib.checkN L.length (at8 L 1) (at8 L 2) (at8 L 3) sz lo hi=none:=by unfold Lib.checkN;rw[ae s2,ae s3,ae s4]
 rw[bad u];refine H.wg ?_;intro w H;exact H.sx
theorem qb(o:au):List.flatMap bR (o++[10])=List.flatMap bR o++[10]:=by rw[cw];rfl
def mP(rs:List eA)(k:Nat):List eA:=match rs with
 | []=>[(k,1)]
 | [(j,n)]=>if j=k then[(j,n+1)]else[(j,n),(k,1)]
 | r::x::rs=>r::mP (x::rs) k
theorem wC:∀(rs:List eA) (j n k:Nat),mP (rs++[(j,n)]) k=if j=k then rs++[(j,n+1)]else rs++[(j,n),(k,1)]
 | [],j,n,k=>by simp only[aL,mP]
 | [r],j,n,k=>by show r::mP [(j,n)] k=_;rw[show mP [(j,n)] k=if j=k then[(j,n+1)]else[(j,n),(k,1)]from rfl];split<;>rfl
 | r::x::rs,j,n,k=>by have:=wC (x::rs) j n k;show r::mP (x::rs++[(j,n)]) k=_;rw[this];split<;>rfl
def yR(k:Nat):List eA->List eA
 | (j,n)::r=>if k=j then(j,n+1)::r else(k,1)::(j,n)::r
 | []=>[(k,1)]
theorem XU(k:Nat)(ks:au):cL (k::ks)=yR k (cL ks):=by
 rw[cL];cases cL ks with
 | nil=>rfl
 | cons x r=>rfl
theorem agi(a k:Nat):∀rs:List eA,yR a (mP rs k)=mP (yR a rs) k
 | []=>by
  show yR a [(k,1)]=mP [(a,1)] k;show(if a=k then[(k,2)]else[(a,1),(k,1)])=if a=k then[(a,2)]else[(a,1),(k,1)]
  split
  ·rename_i h;rw[h]
  rfl
 | [(j,n)]=>by
  show yR a (if j=k then[(j,n+1)]else[(j,n),(k,1)])=mP (if a=j then[(j,n+1)]else[(a,1),(j,n)]) k;by_cases h1:j=k<;>by_cases h2:a=j<;>simp[yR,mP,h1,h2];all_goals (try subst h1);(try subst h2);(try simp_all)
  all_goals (show _=(_,1)::(if _=_ then _ else _);simp)
 | (j,n)::x::rs=>by
  show yR a ((j,n)::mP (x::rs) k)=mP (if a=j then(j,n+1)::x::rs else(a,1)::(j,n)::x::rs) k;by_cases h2:a=j
  ·rw[ag h2];show(if a=j then(j,n+1)::mP (x::rs) k else _)=_;rw[ag h2];rfl
  rw[ae h2];show(if a=j then _ else(a,1)::(j,n)::mP (x::rs) k)=_;rw[ae h2];rfl
theorem qF:∀(ks:au) (k:Nat),cL (ks++[k])=mP (cL ks) k
 | [],k=>rfl
 | a::ks,k=>by rw[bb,XU,qF ks k,XU,agi]
theorem FL(l:List α):l=[]\/∃i x,l=i++[x]:=by
 rcases List.eq_nil_or_concat l with h|⟨i,x,h⟩
 ·exact .inl h
 exact .inr ⟨i,x,by simpa using h⟩
theorem Rel.vc{w0 V0:ad}(H:Rel w0 V0 own V w){i sz:Nat}{s:Sl}{e:TypeId}{xs:aC}(hi:own[i]?=some (.row s e sz xs))(j:Nat)(hj:j<s.len*sz){b o:Nat}(hb:b=bW s.a)(ho:o=bM s.a+j){v:aj}{k:ad->Prop}
  (hk:∀w',Rel w0 V0 (own.set i (.row s e sz (xs.set j v))) V w'->k w'):∃c t',oR w b c t'/\gS c o [v] λc'=>∀w',mZ w b c' t' w'->k w':=by
 have hr:=H.rowAt hi;rcases hr.at_ with⟨_,h2,_⟩|⟨b0,cur,h1,h2,h3,h4,h5,h6⟩
 ·rw[h2,zi]at hj;omega
 rw[h1]at hb ho;simp only[bW,bM,dR]at hb ho;subst hb ho;have hbl:oR w b cur.toList e:=h2;have hle:=kr sz h3;refine⟨cur.toList,e,hbl,JB (by rw[Array.length_toList,h5];omega) λw' hu=>hk w' ?_⟩;have hu':=hu;obtain⟨fz,cs,v7,rfl⟩:=hu.wd;refine H.put hi rfl rfl rfl ah (λk _ hk=>hu'.other λe=>hk (by rw[e];simp[aT.at_,h1])) ⟨by rw[List.length_set,hr.len],.inr ⟨b,(cur.toList.set o v).toArray,h1,hu'.row hbl ah,h3,h4,by simp[h5],?_⟩⟩ λk hk=>.inl hk;rw[<-h6];simp[List.take_set]
theorem Ca(rs:List eA)(j n:Nat):((aX (rs++[(j,n)])).flatMap eX).set (rs.length*2+1) (iv ((n:Int)+1))=(aX (rs++[(j,n+1)])).flatMap eX:=by
 have hl:((aX rs).flatMap eX).length=rs.length*2:=by rw[kW (n:=2) (λ_=>rfl)];simp[aX]
 unfold aX;rw[dU,cw,dU,cw];unfold aX at hl;rw[Jd _ _ aa,hl,show rs.length*2+1-rs.length*2=1 by omega];rfl
structure aag(W V:ad)(l:au)(v:aj)(w':ad):Prop where
 ex:∃(V':ad) (r q:Sl),Sub V V'/\Rel W V [] V' w'/\v=.tuple #[r.v,q.v]/\aF V' r ((lines l).1.flatMap bR)/\aA eX V' q (aX (cL (lines l).2))
theorem ahI(hV:Sub V W){s:Sl}{l:au}(hs:aA fC V s l)(hl:l.length<=100000)(hc:∀c∈l,eg c):aB 122 [s.v] W (aag W V l):=by
 have H:=aG hV;have hlen:=hs.len;refine eV Tryz.func122 95 [0,2,3,4,5,6,7,8,12,26,33,56,78] ?_;refine wk ?_;replace H:=H.br 250 2;replace H:=H.br 5 1
 refine aP (S:=Nat×Sl×Sl×au×au) al [0,2,3] (λq=>[(4,q.2.1.v),(5,q.2.2.1.v),(6,iv q.1)])
  (λq w'=>q.1<=l.length/\lines l=(q.2.2.2.1++(lines (l.drop q.1)).1,q.2.2.2.2++(lines (l.drop q.1)).2)/\(q.2.2.2.1.flatMap bR).length<=4*q.1/\q.2.2.2.2.length<=q.1/\Rel W V [.row q.2.1 5 1 ((q.2.2.2.1.flatMap bR).flatMap aI),.row q.2.2.1 250 2 ((aX (cL q.2.2.2.2)).flatMap eX)] V w') (λq _=>l.length-q.1) (0,⟨none,0,0⟩,⟨none,0,0⟩,[],[]) ?_
 conv=>whnf
 refine⟨sB,⟨aa,rfl,aQ _,aQ _,H⟩,?_⟩;clear H;rintro⟨i,r4,r5,o,ks⟩w⟨hi,jE,dF,gk,H⟩;dsimp only at hi jE dF gk H |-;have hrl:=(nJ ks).2.2.2.2;have hns:∀rs j n,cL ks=rs++[(j,n)]->n<=ks.length:=λrs j n h=>by have:=(nJ ks).2.2.2.1;rw[h]at this;simp[ij]at this;omega
 by_cases hlt:i<l.length;rotate_left
 ·rw[fc aa]at jE;simp only[lines,aZ]at jE;obtain⟨V2,hV2,H,h4⟩:=Rel.aJ H;obtain⟨V3,aw,H,h5⟩:=Rel.aJ H;refine wk ?_;refine⟨V3,r4,r5,hV2.trans aw,H.sx,rfl,?_,?_⟩
  ·rw[jE];exact h4.up aw
  rw[jE];exact h5
 obtain⟨p0,c0⟩:=hs.aR (g:=rv) (λ_=>rfl) hlt;have eT:l.drop i=l[i]::l.drop (i+1):=dk hlt;have hch:=hc l[i] (bS hlt);obtain⟨c,gZ⟩:∃c,c=l[i]:=⟨_,rfl⟩
 rw[<-gZ]at c0 eT hch;rw[eT]at jE;have UQ:=nP c;by_cases h10:c=10
 ·subst h10;have e:=Et (l.drop (i+1));refine H.wg ?_;intro _ w H;refine Rel.bF (f:=aI) (l:=o.flatMap bR) (x:=10) rfl (λ_=>rfl) (bc.1 rfl) H (by show((o.flatMap bR).length+1)*1<=_;omega) aa ?_;intro r4 w H;have nv:=H.dW (i:=1) rfl (λ_=>rfl) ai;have dK:(aX (cL ks)).length=(cL ks).length:=by simp[aX]
  refine wk ?_;rcases FL (cL ks)with bI|⟨rs,⟨j,n⟩,bI⟩
  ·rw[bI]at dK nv H;simp only[aX,lk,aK]at dK nv;refine H.wg ?_;intro _ w H;refine Rel.eH (f:=eX) (l:=[]) (x:=eY (0,1)) rfl (λ_=>rfl) (bc.1 rfl) H ah ah ?_;intro r5 w H;refine wk ?_;refine⟨sB,(i+1,r4,r5,o++[10],ks++[0]),⟨rfl,rfl,ax (λz=>some (iv z)) (by dsimp only;omega),trivial⟩,⟨by dsimp only;omega,by dsimp only;rw[jE,e];simp,by dsimp only;rw[cw,ak];have:([10].flatMap bR).length=1:=rfl;omega,by dsimp only;rw[ak,bT];omega,?_⟩,by dsimp only;omega⟩;dsimp only;rw[qb];rw[qF,bI];exact H
  rw[bI]at dK nv H;rw[bI]at hrl;simp only[ak,bT]at dK hrl;have S5:=H.cV (i:=1) rfl (λ_=>rfl) ai;obtain⟨u0,u1,u2⟩:=S5.fF (g:=λr:bV=>iv r.1) (g':=λr:bV=>iv r.2) (λ_=>rfl) (i:=rs.length) aa;have fL:(aX (rs++[(j,n)]))[rs.length]'(by omega)=eY (j,n):=by simp[aX]
  rw[fL]at u1 u2;dsimp only[eY]at u1 u2;have A7:=hns rs j n bI;have ej:((r5.len:Int)-1)=((rs.length:Nat):Int):=aa;refine wk ?_;rw[ej];refine wk ?_;have hps:=qF ks 0;rw[bI,wC]at hps;by_cases hjk:j=0
  ·rw[ag hjk]at hps;refine wk ?_;rw[ej];refine wk ?_;refine Rel.vc (i:=1) H rfl (rs.length*2+1) aa rfl rfl ?_;intro w H;simp only[fa,bH]at H;rw[Ca,<-hps]at H;refine wk ?_;refine⟨sB,(i+1,r4,r5,o++[10],ks++[0]),⟨rfl,rfl,ax (λz=>some (iv z)) (by dsimp only;omega),trivial⟩,⟨by dsimp only;omega,by dsimp only;rw[jE,e];simp,by dsimp only;rw[cw,ak];have:([10].flatMap bR).length=1:=rfl;omega,by dsimp only;rw[ak,bT];omega,?_⟩,by dsimp only;omega⟩;dsimp only;rw[qb];exact H
  rw[ae hjk]at hps;refine H.wg ?_;intro _ w H;refine Rel.eH (f:=eX) (l:=aX (rs++[(j,n)])) (x:=eY (0,1)) rfl (λ_=>rfl) (bc.1 rfl) H (by show((aX (rs++[(j,n)])).length+1)*16<=_;omega) aa ?_;intro r5 w H;rw[show aX (rs++[(j,n)])++[eY (0,1)]=aX (rs++[(j,n),(0,1)])by simp[aX],<-hps]at H;refine wk ?_;refine⟨sB,(i+1,r4,r5,o++[10],ks++[0]),⟨rfl,rfl,ax (λz=>some (iv z)) (by dsimp only;omega),trivial⟩,⟨by dsimp only;omega,by dsimp only;rw[jE,e];simp,by dsimp only;rw[cw,ak];have:([10].flatMap bR).length=1:=rfl;omega,by dsimp only;rw[ak,bT];omega,?_⟩,by dsimp only;omega⟩;dsimp only;rw[qb];exact H
 by_cases j7:c=13;rotate_left
 ·have e:=Eu h10 j7 (l.drop (i+1));rw[e]at jE;refine wk ?_;refine(CK H hch aa).use ?_;clear H;rintro v w⟨r,rfl,H⟩;refine wk ?_;refine⟨sB,(i+1,r,r5,o++[c],ks),sB,⟨by dsimp only;omega,?_,?_,by dsimp only;omega,?_⟩,by dsimp only;omega⟩
  ·dsimp only;rw[jE];simp
  ·dsimp only;rw[cw,ak,Fg,vf];omega
  dsimp only;rw[cw,Fg];exact H
 subst j7;by_cases ke:i+1<l.length;rotate_left
 ·rw[fc (show l.length<=i+1 by omega)]at jE;have e:=Bh (r:=[]) ah;have e2:l.drop (i+1)=[]:=fc aa;rw[<-e2]at jE e;refine H.wg ?_;intro _ w H;refine Rel.bF (f:=aI) (l:=o.flatMap bR) (x:=10) rfl (λ_=>rfl) (bc.1 rfl) H (by show((o.flatMap bR).length+1)*1<=_;omega) aa ?_;intro r4 w H;have nv:=H.dW (i:=1) rfl (λ_=>rfl) ai;have dK:(aX (cL ks)).length=(cL ks).length:=by simp[aX]
  refine wk ?_;rcases FL (cL ks)with bI|⟨rs,⟨j,n⟩,bI⟩
  ·rw[bI]at dK nv H;simp only[aX,lk,aK]at dK nv;refine H.wg ?_;intro _ w H;refine Rel.eH (f:=eX) (l:=[]) (x:=eY (2,1)) rfl (λ_=>rfl) (bc.1 rfl) H ah ah ?_;intro r5 w H;refine wk ?_;refine⟨sB,(i+1,r4,r5,o++[10],ks++[2]),⟨rfl,rfl,ax (λz=>some (iv z)) (by dsimp only;omega),trivial⟩,⟨by dsimp only;omega,by dsimp only;rw[jE,e];simp,by dsimp only;rw[cw,ak];have:([10].flatMap bR).length=1:=rfl;omega,by dsimp only;rw[ak,bT];omega,?_⟩,by dsimp only;omega⟩;dsimp only;rw[qb];rw[qF,bI];exact H
  rw[bI]at dK nv H;rw[bI]at hrl;simp only[ak,bT]at dK hrl;have S5:=H.cV (i:=1) rfl (λ_=>rfl) ai;obtain⟨u0,u1,u2⟩:=S5.fF (g:=λr:bV=>iv r.1) (g':=λr:bV=>iv r.2) (λ_=>rfl) (i:=rs.length) aa;have fL:(aX (rs++[(j,n)]))[rs.length]'(by omega)=eY (j,n):=by simp[aX]
  rw[fL]at u1 u2;dsimp only[eY]at u1 u2;have A7:=hns rs j n bI;have ej:((r5.len:Int)-1)=((rs.length:Nat):Int):=aa;refine wk ?_;rw[ej];refine wk ?_;have hps:=qF ks 2;rw[bI,wC]at hps;by_cases hjk:j=2
  ·rw[ag hjk]at hps;refine wk ?_;rw[ej];refine wk ?_;refine Rel.vc (i:=1) H rfl (rs.length*2+1) aa rfl rfl ?_;intro w H;simp only[fa,bH]at H;rw[Ca,<-hps]at H;refine wk ?_;refine⟨sB,(i+1,r4,r5,o++[10],ks++[2]),⟨rfl,rfl,ax (λz=>some (iv z)) (by dsimp only;omega),trivial⟩,⟨by dsimp only;omega,by dsimp only;rw[jE,e];simp,by dsimp only;rw[cw,ak];have:([10].flatMap bR).length=1:=rfl;omega,by dsimp only;rw[ak,bT];omega,?_⟩,by dsimp only;omega⟩;dsimp only;rw[qb];exact H
  rw[ae hjk]at hps;refine H.wg ?_;intro _ w H;refine Rel.eH (f:=eX) (l:=aX (rs++[(j,n)])) (x:=eY (2,1)) rfl (λ_=>rfl) (bc.1 rfl) H (by show((aX (rs++[(j,n)])).length+1)*16<=_;omega) aa ?_;intro r5 w H;rw[show aX (rs++[(j,n)])++[eY (2,1)]=aX (rs++[(j,n),(2,1)])by simp[aX],<-hps]at H;refine wk ?_;refine⟨sB,(i+1,r4,r5,o++[10],ks++[2]),⟨rfl,rfl,ax (λz=>some (iv z)) (by dsimp only;omega),trivial⟩,⟨by dsimp only;omega,by dsimp only;rw[jE,e];simp,by dsimp only;rw[cw,ak];have:([10].flatMap bR).length=1:=rfl;omega,by dsimp only;rw[ak,bT];omega,?_⟩,by dsimp only;omega⟩;dsimp only;rw[qb];exact H
 obtain⟨p1,c1⟩:=hs.aR (g:=rv) (λ_=>rfl) ke;have qd:l.drop (i+1)=l[i+1]::l.drop (i+2):=dk ke;obtain⟨d,nr⟩:∃d,d=l[i+1]:=⟨_,rfl⟩
 rw[<-nr]at c1 qd;by_cases hd:d=10
 ·rw[hd]at c1 qd;rw[qd]at jE;have e:=Es (l.drop (i+2));refine H.wg ?_;intro _ w H;refine Rel.bF (f:=aI) (l:=o.flatMap bR) (x:=10) rfl (λ_=>rfl) (bc.1 rfl) H (by show((o.flatMap bR).length+1)*1<=_;omega) aa ?_;intro r4 w H;have nv:=H.dW (i:=1) rfl (λ_=>rfl) ai;have dK:(aX (cL ks)).length=(cL ks).length:=by simp[aX]
  refine wk ?_;rcases FL (cL ks)with bI|⟨rs,⟨j,n⟩,bI⟩
  ·rw[bI]at dK nv H;simp only[aX,lk,aK]at dK nv;refine H.wg ?_;intro _ w H;refine Rel.eH (f:=eX) (l:=[]) (x:=eY (1,1)) rfl (λ_=>rfl) (bc.1 rfl) H ah ah ?_;intro r5 w H;refine wk ?_;refine⟨sB,(i+2,r4,r5,o++[10],ks++[1]),⟨rfl,rfl,ax (λz=>some (iv z)) (by dsimp only;omega),trivial⟩,⟨by dsimp only;omega,by dsimp only;rw[jE,e];simp,by dsimp only;rw[cw,ak];have:([10].flatMap bR).length=1:=rfl;omega,by dsimp only;rw[ak,bT];omega,?_⟩,by dsimp only;omega⟩;dsimp only;rw[qb];rw[qF,bI];exact H
  rw[bI]at dK nv H;rw[bI]at hrl;simp only[ak,bT]at dK hrl;have S5:=H.cV (i:=1) rfl (λ_=>rfl) ai;obtain⟨u0,u1,u2⟩:=S5.fF (g:=λr:bV=>iv r.1) (g':=λr:bV=>iv r.2) (λ_=>rfl) (i:=rs.length) aa;have fL:(aX (rs++[(j,n)]))[rs.length]'(by omega)=eY (j,n):=by simp[aX]
  rw[fL]at u1 u2;dsimp only[eY]at u1 u2;have A7:=hns rs j n bI;have ej:((r5.len:Int)-1)=((rs.length:Nat):Int):=aa;refine wk ?_;rw[ej];refine wk ?_;have hps:=qF ks 1;rw[bI,wC]at hps;by_cases hjk:j=1
  ·rw[ag hjk]at hps;refine wk ?_;rw[ej];refine wk ?_;refine Rel.vc (i:=1) H rfl (rs.length*2+1) aa rfl rfl ?_;intro w H;simp only[fa,bH]at H;rw[Ca,<-hps]at H;refine wk ?_;refine⟨sB,(i+2,r4,r5,o++[10],ks++[1]),⟨rfl,rfl,ax (λz=>some (iv z)) (by dsimp only;omega),trivial⟩,⟨by dsimp only;omega,by dsimp only;rw[jE,e];simp,by dsimp only;rw[cw,ak];have:([10].flatMap bR).length=1:=rfl;omega,by dsimp only;rw[ak,bT];omega,?_⟩,by dsimp only;omega⟩;dsimp only;rw[qb];exact H
  rw[ae hjk]at hps;refine H.wg ?_;intro _ w H;refine Rel.eH (f:=eX) (l:=aX (rs++[(j,n)])) (x:=eY (1,1)) rfl (λ_=>rfl) (bc.1 rfl) H (by show((aX (rs++[(j,n)])).length+1)*16<=_;omega) aa ?_;intro r5 w H;rw[show aX (rs++[(j,n)])++[eY (1,1)]=aX (rs++[(j,n),(1,1)])by simp[aX],<-hps]at H;refine wk ?_;refine⟨sB,(i+2,r4,r5,o++[10],ks++[1]),⟨rfl,rfl,ax (λz=>some (iv z)) (by dsimp only;omega),trivial⟩,⟨by dsimp only;omega,by dsimp only;rw[jE,e];simp,by dsimp only;rw[cw,ak];have:([10].flatMap bR).length=1:=rfl;omega,by dsimp only;rw[ak,bT];omega,?_⟩,by dsimp only;omega⟩;dsimp only;rw[qb];exact H
 have e:=Bh (r:=l.drop (i+1)) (λk h=>by rw[qd]at h;injection h with h _;exact hd h);refine H.wg ?_;intro _ w H;refine Rel.bF (f:=aI) (l:=o.flatMap bR) (x:=10) rfl (λ_=>rfl) (bc.1 rfl) H (by show((o.flatMap bR).length+1)*1<=_;omega) aa ?_;intro r4 w H;have nv:=H.dW (i:=1) rfl (λ_=>rfl) ai;have dK:(aX (cL ks)).length=(cL ks).length:=by simp[aX]
 refine wk ?_;rcases FL (cL ks)with bI|⟨rs,⟨j,n⟩,bI⟩
 ·rw[bI]at dK nv H;simp only[aX,lk,aK]at dK nv;refine H.wg ?_;intro _ w H;refine Rel.eH (f:=eX) (l:=[]) (x:=eY (2,1)) rfl (λ_=>rfl) (bc.1 rfl) H ah ah ?_;intro r5 w H;refine wk ?_;refine⟨sB,(i+1,r4,r5,o++[10],ks++[2]),⟨rfl,rfl,ax (λz=>some (iv z)) (by dsimp only;omega),trivial⟩,⟨by dsimp only;omega,by dsimp only;rw[jE,e];simp,by dsimp only;rw[cw,ak];have:([10].flatMap bR).length=1:=rfl;omega,by dsimp only;rw[ak,bT];omega,?_⟩,by dsimp only;omega⟩;dsimp only;rw[qb];rw[qF,bI];exact H
 rw[bI]at dK nv H;rw[bI]at hrl;simp only[ak,bT]at dK hrl;have S5:=H.cV (i:=1) rfl (λ_=>rfl) ai;obtain⟨u0,u1,u2⟩:=S5.fF (g:=λr:bV=>iv r.1) (g':=λr:bV=>iv r.2) (λ_=>rfl) (i:=rs.length) aa;have fL:(aX (rs++[(j,n)]))[rs.length]'(by omega)=eY (j,n):=by simp[aX]
 rw[fL]at u1 u2;dsimp only[eY]at u1 u2;have A7:=hns rs j n bI;have ej:((r5.len:Int)-1)=((rs.length:Nat):Int):=aa;refine wk ?_;rw[ej];refine wk ?_;have hps:=qF ks 2;rw[bI,wC]at hps;by_cases hjk:j=2
 ·rw[ag hjk]at hps;refine wk ?_;rw[ej];refine wk ?_;refine Rel.vc (i:=1) H rfl (rs.length*2+1) aa rfl rfl ?_;intro w H;simp only[fa,bH]at H;rw[Ca,<-hps]at H;refine wk ?_;refine⟨sB,(i+1,r4,r5,o++[10],ks++[2]),⟨rfl,rfl,ax (λz=>some (iv z)) (by dsimp only;omega),trivial⟩,⟨by dsimp only;omega,by dsimp only;rw[jE,e];simp,by dsimp only;rw[cw,ak];have:([10].flatMap bR).length=1:=rfl;omega,by dsimp only;rw[ak,bT];omega,?_⟩,by dsimp only;omega⟩;dsimp only;rw[qb];exact H
 rw[ae hjk]at hps;refine H.wg ?_;intro _ w H;refine Rel.eH (f:=eX) (l:=aX (rs++[(j,n)])) (x:=eY (2,1)) rfl (λ_=>rfl) (bc.1 rfl) H (by show((aX (rs++[(j,n)])).length+1)*16<=_;omega) aa ?_;intro r5 w H;rw[show aX (rs++[(j,n)])++[eY (2,1)]=aX (rs++[(j,n),(2,1)])by simp[aX],<-hps]at H;refine wk ?_;refine⟨sB,(i+1,r4,r5,o++[10],ks++[2]),⟨rfl,rfl,ax (λz=>some (iv z)) (by dsimp only;omega),trivial⟩,⟨by dsimp only;omega,by dsimp only;rw[jE,e];simp,by dsimp only;rw[cw,ak];have:([10].flatMap bR).length=1:=rfl;omega,by dsimp only;rw[ak,bT];omega,?_⟩,by dsimp only;omega⟩;dsimp only;rw[qb];exact H
theorem ajH(x:bV)(h1:cY x.1)(h2:cY x.2):vn V 198 [] (.agg (eX x).toArray) (gD x):=IH λV1 W1 hV fR=>by have H:=aG hV;have a1:=dq h1.1 h1.2;have a2:=dq h2.1 h2.2;refine eV Tryz.func198 10 [0,1,2] ?_;refine H.wn ?_;intro w b1 H;refine wk ?_;refine eJ (id:=1) al mixed [2] [0,1,3,4,2,5,6,7] av ?_;intro w bG;replace H:=Rel.ext H bG.ext;refine wk ((jW H.data h1).use ?_);rintro v w⟨r1,rfl,K⟩;replace H:=H.cq K;refine wk ((jW H.data h2).use ?_);rintro v w⟨r2,rfl,K⟩;replace H:=H.cq K;refine wk ?_;refine Rel.eB (s:=r1) (x:=r2) (xs:=az x.1) (ys:=az x.2) H (i:=0) rfl aa ?_;intro rn w H;simp only[bH]at H;refine wk ?_;exact⟨rn,rfl,H.sx⟩
theorem akb{W:ad}(hV:Sub V W){s:Sl}{l:List bV}(hs:aA eX V s l){g:FuncId}{cap:aC}{enc:bV->ab}(hone:∀x∈l,vn V g cap ((λp=>.agg (eX p).toArray) x) (enc x))(hll:l.length<=1099511627776)(hb:(cm enc l).length<=1099511627776) :
  aB 197 [s.v,.func (.func g) #[] cap.toArray] W λv w'=>∃r:Sl,v=r.v/\Rel W V [.row r 5 1 ((cm enc l).flatMap aI)] V w':=by
 have H:=aG hV;have hlen:=hs.len;rw[cm,ak]at hb;refine eV Tryz.func197 24 [0,1,4,5,7,11,12,13,14] ?_;refine wk ?_;rw[hlen];refine(jW (n:=l.length) H.data (by constructor<;>omega)).use ?_;rintro v w⟨r0,rfl,K⟩;replace H:=H.call K;refine wk ?_;refine aP (S:=Nat×Sl) al [0,1,4,11,12] (λk=>[(5,k.2.v),(13,iv k.1)]) (λk w'=>k.1<=l.length/\∃V1,Sub V V1/\Rel W V [.row k.2 5 1 ((az l.length++(l.take k.1).flatMap enc).flatMap aI)] V1 w') (λk _=>l.length-k.1) (0,r0) ?_;conv=>whnf
 refine⟨sB,⟨aa,V,aS _,by simpa using H⟩,?_⟩;clear H;rintro⟨k,r⟩w⟨hk,V1,hV1,H⟩;dsimp only at hk H;by_cases hlt:k<l.length;rotate_left
 ·refine wk ?_;rw[bJ aa]at H;exact⟨r,rfl,H.back⟩
 have hbl:=vD (enc:=enc) hlt;obtain⟨hp,jF,iA⟩:=(hs.up hV1).fF (g:=λr:bV=>iv r.1) (g':=λr:bV=>iv r.2) (λ_=>rfl) hlt;refine H.wg ?_;intro _ _ w H;refine(hone l[k] (bS hlt) V1 w hV1 H.data).use ?_;rintro v w⟨V2,x,hV2,rfl,hx,K⟩;replace H:=H.call K;simp only[aL]at H;refine wk ?_;refine Rel.jO H (i:=1) rfl hx (by simp only[ak];omega) ?_;intro rn w H;rw[Hi hlt]at H;refine wk ?_;exact⟨sB,(k+1,rn),sB,⟨aa,V2,hV1.trans hV2,H.sx⟩,aa⟩
theorem adh(hV:Sub V W){e:Nat}(he:e<5){s:Sl}{rs:List eA}(hs:aA eX V s (aX rs))(hl:rs.length<=100000)(ho:∀r∈rs,r.1<3/\1<=r.2/\r.2<=100000) :
  aB 123 [.agg (wO e s).toArray] W λv w'=>∃r:Sl,v=r.v/\Rel W V [.row r 5 1 ((if fX e (eZ rs)=true then[]else nO e rs).flatMap aI)] V w':=by
 have H:=aG hV;have dK:(aX rs).length=rs.length:=by simp[aX]
 have a1:=dq (n:=(e:Int)) aa aa;have hpl:=wD (f:=gD) (m:=20) (l:=aX rs) aa (λx hx=>by obtain⟨y,hy,rfl⟩:=cJ.1 hx;obtain⟨q1,q2,q3⟩:=ho y hy;have b1:=dq (n:=(y.1:Int)) aa aa;have b2:=dq (n:=(y.2:Int)) aa aa;simp only[gD,ak];omega)
 refine eV Tryz.func123 12 [0,1,2,4] ?_;refine H.wn ?_;intro w b1 H;refine wk ?_;refine H.us (J6 H.data e hs aa (λr hr=>(ho r hr).2.1)) ?_;intro w H;cases ht:fX e (eZ rs)with
 | true =>rw[ag rfl];refine wk ?_;exact⟨⟨none,0,0⟩,rfl,Rel.br H.sx _ _⟩
 | false =>
  rw[ae ah];refine wk ?_;refine eJ (id:=3) al mixed [2] [0,1,3,4,2,5,6,7] av ?_;intro w bG;replace H:=Rel.ext H bG.ext;refine wk ?_;refine(jW H.data (show cY ((e:Nat):Int)by constructor<;>omega)).use ?_;rintro v w⟨r1,rfl,K⟩;replace H:=H.cq K;refine wk ?_;refine(akb (l:=aX rs) (enc:=gD) (g:=198) (cap:=[]) H.data hs (λp hp=>?_) aa aa).use ?_
  ·obtain⟨y,hy,rfl⟩:=cJ.1 hp;obtain⟨q1,q2,q3⟩:=ho y hy;exact ajH _ (by constructor<;>dsimp only<;>omega) (by constructor<;>dsimp only<;>omega)
  rintro v w⟨r2,rfl,K⟩;replace H:=H.cq K;refine wk ?_;refine Rel.eB (s:=r1) (x:=r2) (xs:=az (e:Int)) (ys:=cm gD (aX rs)) H (i:=0) rfl aa ?_;intro rn w H;simp only[bH]at H;refine wk ?_;exact⟨rn,rfl,H.sx⟩
theorem ab0(hV:Sub V W){x y:Sl}{a b:ab}(hx:aF V x a)(hy:aF V y b):aB 192 [x.v,y.v] W λv w'=>(∃r:Sl,v=.tuple #[r.v,.bool (decide (a.take b.length=b))]/\aF V r (if a.take b.length=b then a.drop b.length else a))/\Rel W V [] V w':=by
 have H:=aG hV;have h1:=hx.len;have h2:=hy.len;have hc:=hx.cap;refine eV Tryz.func192 15 [0,1,4,5,9] ?_;refine wk (H.us (Hy H.data hx hy) ?_);intro w H;by_cases hp:a.take b.length=b
 ·have hl:b.length<=a.length:=by have:=ax bU hp;simp at this;omega
  have hsub:=hx.sub (n:=1) (λ_=>rfl) (a:=y.len) (b:=x.len) aa aa;rw[h1,fA]at hsub;rw[bw hp,ag hp];refine wk ?_;refine⟨⟨⟨bo x.a y.len x.cap 1,x.len-y.len,x.cap-y.len⟩,rfl,?_⟩,H.sx⟩;rw[h1];rw[h2]at hsub |-;exact hsub
 rw[bA hp,ae hp];refine wk ?_;exact⟨⟨x,rfl,hx⟩,H.sx⟩
structure Z1(W V:ad)(x:au×Nat)(v:aj)(w':ad):Prop where
 ex:∃(V':ad) (r:Sl),Sub V V'/\Rel W V [] V' w'/\v=.tuple #[r.v,iv (x.2:Int)]/\aA fC V' r x.1
theorem KO(h:(chars (l.drop p)).isSome=true)(hp:p<l.length):∃c n,nh (l.drop p)=some (c,n)/\eg c/\1<=n/\p+n<=l.length/\chars (l.drop p)=(chars (l.drop (p+n))).map (c::·):=by
 have hne:l.drop p≠[]:=λe=>by have:=ax bU e;rw[aU,aK]at this;omega
 rw[CU hne]at h |-;cases hc:nh (l.drop p)with
 | none=>rw[hc]at h;cases h
 | some x =>obtain⟨c,n⟩:=x;obtain⟨q1,q2,q3,_⟩:=xv hc;have:=nP c;rw[aU]at q3;refine⟨c,n,rfl,q1,aa,aa,?_⟩;simp only;rw[List.drop_drop]
theorem aga{cs:au}(h:chars b=some cs):(b.take 3=oz↔cs.head?=some 65279)/\(b.take 3=oz->chars (b.drop 3)=some cs.tail):=by
 obtain⟨h1,h2⟩:=GI.1 h;have hm:bR 65279=oz:=ai;cases cs with
 | nil =>simp only[eL]at h2;rw[<-h2];exact⟨⟨λe=>(by cases e),λe=>(by cases e)⟩,λe=>(by cases e)⟩
 | cons c r =>
  rw[bD]at h2;have key:b.take 3=oz->c=65279:=λe=>by
   have e2:b=bR 65279++b.drop 3:=by rw[hm,<-e,eW]
   have g1:=KN (b.drop 3) (c:=65279) ai;rw[<-e2]at g1;have g2:=KN (r.flatMap bR) (h1 c ah);rw[h2,g1]at g2;injection g2 with g2
   injection g2 with g2
   exact g2.symm
  have back:c=65279->b.take 3=oz/\b.drop 3=r.flatMap bR:=λe=>by rw[e,hm]at h2;rw[<-h2];exact⟨rfl,rfl⟩
  refine⟨⟨λe=>by rw[key e];rfl,λe=>(back (by simpa using e)).1⟩,λe=>?_⟩;rw[(back (key e)).2,List.tail_cons];exact GJ r λx hx=>h1 x (by simp[hx])
theorem adp{w0 V0:ad}(H:Rel w0 V0 own V w){b1 b2:Nat}{k:aj->ad->Prop}
  (hk:∀w' b3,Rel w0 V0 (.ay b3 [.slice none 0 0,.slice none 0 0,.slice (some ⟨b1,0,none⟩) 2 2,.slice (some ⟨b2,0,none⟩) 2 2] 22::own) V w'->k (.slice (some ⟨b3,0,none⟩) 4 4) w') :
  bE Tryz.prog (Instr.buildSlice 96 4 [(2,.slice (some ⟨b1,0,none⟩) 2 2),(3,.slice (some ⟨b2,0,none⟩) 2 2)].toArray) w k:=by
 refine .of (v:=.slice (some ⟨w.heap.size,0,none⟩) 4 4) (w':=w.alloc (.cells #[.slice none 0 0,.slice none 0 0,.slice (some ⟨b1,0,none⟩) 2 2,.slice (some ⟨b2,0,none⟩) 2 2] 22)) av (hk _ _ (H.EI ⟨rfl,rfl⟩))
theorem ace(hV:Sub V W)(hT:Lib.Utf8Tabs 0 1 V){s:Sl}{b:ab}(hs:aF V s b)(hl:b.length<=1000000):aB 119 [s.v] W (Z1 W V (gO b)):=by
 have H:=aG hV;have hlen:=hs.len;have og:=hs.cap;refine nX al Tryz.func119 rfl av 86 rfl ah [0,2,3,4,5,6,7,8,9,10,12,14,23,26,27,28,29,39,48,53,62,63,64,70,73,74,75,76] ?_;refine aM.cA al ?_;refine wk ?_;refine aM.lq al (λ_:Unit=>[(0,s.v)]) (λ_ w'=>gL true b=none/\gL false b=none/\Rel W V [] V w') ?_ ?_
 ·by_cases he:2<=b.length/\b.length%2=0;rotate_left
  ·have e:∀big,gL big b=none:=λbig=>by unfold gL;rw[ae (λh=>he ⟨h.1,h.2.1⟩)]
   by_cases h2:2<=b.length
   ·have h3:¬b.length%2=0:=λh=>he ⟨h2,h⟩;refine wk ?_;exact⟨(),sB,e _,e _,H.sx⟩
   refine wk ?_;exact⟨(),sB,e _,e _,H.sx⟩
  obtain⟨h2,hev⟩:=he;have hu:∀big,gL big b=if b.take 2=(if big=true then[254,255]else[255,254])then dY (gV big (b.drop 2))else none:=λbig=>by
   unfold gL;by_cases h:b.take 2=(if big=true then[254,255]else[255,254])
   ·rw[ag ⟨h2,hev,h⟩,ag h]
   rw[ae (λq=>h q.2.2),ae h]
  have hr2:aF V ⟨bo s.a 2 s.cap 1,s.len-2,s.cap-2⟩ (b.drop 2):=by have:=hs.sub (n:=1) (λ_=>rfl) (a:=2) (b:=b.length) aa aa;rw[fA]at this;rw[hlen];exact this
  have pf:(b.drop 2).length=b.length-2:=aU;refine H.wn ?_;intro w b1 H;replace H:=H.cB (c':=([254,255]:ab).flatMap aI) rfl;refine H.wn ?_;intro w b2 H;replace H:=H.cB (c':=([255,254]:ab).flatMap aI) rfl;refine wk ?_;refine adp H ?_;intro w b3 H;obtain⟨V1,hV1,H,hb3⟩:=H.cU;obtain⟨V2,hV2,H,hb2⟩:=H.cU;obtain⟨V3,aw,H,hb1⟩:=H.cU;have fR:=(hV1.trans hV2).trans aw;have f0:=(hV2.trans aw).cell (hb3.cS (i:=0) rfl);have f1:=(hV2.trans aw).cell (hb3.cS (i:=1) rfl);have f2:=(hV2.trans aw).cell (hb3.cS (i:=2) rfl);have f3:=(hV2.trans aw).cell (hb3.cS (i:=3) rfl);have m1:aF V3 ⟨some ⟨b1,0,none⟩,2,2⟩ [254,255]:=⟨rfl,aQ _,hb1.cells⟩
  have m2:aF V3 ⟨some ⟨b2,0,none⟩,2,2⟩ [255,254]:=⟨rfl,aQ _,hb2.cells.tL aw⟩
  refine wk ?_;refine aP (S:=Nat) al [0,8,9,10,12,14,23,26,27,53,62,63,64,70,73,74,75,76] (λk=>[(28,iv k)]) (λk w'=>k<=4/\(2<k->gL true b=none)/\(3<k->gL false b=none)/\Rel W V [] V3 w') (λk _=>4-k) 0 ?_;conv=>whnf
  refine⟨sB,⟨aa,λh=>by omega,λh=>by omega,H⟩,?_⟩;clear H;rintro k w⟨hk,n1,n2,H⟩;have Mu:k=0\/k=1\/k=2\/k=3\/k=4:=aa;rcases Mu with rfl|rfl|rfl|rfl|rfl
  ·refine wk ?_;exact⟨sB,1,sB,⟨aa,λh=>by omega,λh=>by omega,H.sx⟩,aa⟩
  ·refine wk ?_;exact⟨sB,2,sB,⟨aa,λh=>by omega,λh=>by omega,H.sx⟩,aa⟩
  ·refine wk (H.us (Hy H.data (hs.up fR) m1) ?_);intro w H;rw[show([254,255]:ab).length=2 from rfl];by_cases hp:b.take 2=[254,255]
   rotate_left
   ·have e:gL true b=none:=by rw[hu,ae (by simpa using hp)]
    rw[bA hp];refine wk ?_;exact⟨sB,3,sB,⟨aa,λ_=>e,λh=>by omega,H.sx⟩,aa⟩
   have e:gL true b=dY (gV true (b.drop 2)):=by rw[hu,ag (by simpa using hp)]
   rw[bw hp];refine wk ?_;refine(Zm H.data (hr2.up fR) aa aa true).use ?_;rintro v w⟨V4,r,ar,K,hres⟩;replace H:=H.bd K;cases hd:dY (gV true (b.drop 2))with
   | none =>rw[hd]at hres e;obtain rfl:=hres;refine wk ?_;exact⟨sB,3,sB,⟨aa,λ_=>e,λh=>by omega,H.less fR ar⟩,aa⟩
   | some cs =>
    rw[hd]at hres e;obtain⟨rfl,hr⟩:=hres;have ef:gO b=(cs,2):=by unfold gO;rw[e]
    rw[ef];refine wk ?_;exact⟨V4,r,fR.trans ar,H.sx,rfl,hr⟩
  ·have n1:=n1 aa;refine wk (H.us (Hy H.data (hs.up fR) m2) ?_);intro w H;rw[show([255,254]:ab).length=2 from rfl];by_cases hp:b.take 2=[255,254]
   rotate_left
   ·have e:gL false b=none:=by rw[hu,ae (by simpa using hp)]
    rw[bA hp];refine wk ?_;exact⟨sB,4,sB,⟨aa,λ_=>n1,λ_=>e,H.sx⟩,aa⟩
   have e:gL false b=dY (gV false (b.drop 2)):=by rw[hu,ag (by simpa using hp)]
   rw[bw hp];refine wk ?_;refine(Zm H.data (hr2.up fR) aa aa false).use ?_;rintro v w⟨V4,r,ar,K,hres⟩;replace H:=H.bd K;cases hd:dY (gV false (b.drop 2))with
   | none =>rw[hd]at hres e;obtain rfl:=hres;refine wk ?_;exact⟨sB,4,sB,⟨aa,λ_=>n1,λ_=>e,H.less fR ar⟩,aa⟩
   | some cs =>
    rw[hd]at hres e;obtain⟨rfl,hr⟩:=hres;have ef:gO b=(cs,3):=by unfold gO;rw[n1,e]
    rw[ef];refine wk ?_;exact⟨V4,r,fR.trans ar,H.sx,rfl,hr⟩
  refine wk ?_;exact⟨(),sB,n1 aa,n2 aa,H.less (aS V) fR⟩
 clear H;rintro _ w⟨u1,u2,H⟩;have ef:gO b=AH b:=by unfold gO;rw[u1,u2]
 rw[ef];unfold AH;refine aM.cA al ?_;refine wk ?_;replace H:=H.br 21 1;refine aM.cA al ?_;refine wk ?_;refine(Zx H.data hT hs aa).use ?_;rintro v w⟨rfl,K⟩;replace H:=Rel.call H K;simp only[aL]at H;cases hch:chars b with
 | none =>
  refine wk ?_;refine aM.go al ?_;refine wk ?_;refine aP (S:=Nat×Sl) al [0,2,3,4,5,6,7,9,10,12,23,26,27,28,29,39,48,53,62,63,64,70,73,74] (λk=>[(8,k.2.v),(75,iv k.1)]) (λk w'=>k.1<=b.length/\Rel W V [.row k.2 21 1 (((b.take k.1).map UInt8.toNat).flatMap fC)] V w') (λk _=>b.length-k.1) (0,⟨none,0,0⟩) ?_;conv=>whnf
  refine⟨sB,⟨aa,H⟩,?_⟩;clear H;rintro⟨k,r⟩w⟨hk,H⟩;dsimp only at hk H |-;by_cases hlt:k<b.length
  ·obtain⟨p0,c0⟩:=hs.aR (g:=bv) (λ_=>rfl) hlt;have z0:=b[k].toNat_lt;have oo:((b.take k).map UInt8.toNat).length=k:=by rw[aW,bg];omega
   refine H.wg ?_;intro _ w H;replace H:=H.cB (c':=fC b[k].toNat) (F6 rfl aa);refine Rel.bF (f:=fC) (l:=(b.take k).map UInt8.toNat) (x:=b[k].toNat) rfl (λ_=>rfl) (bc.1 rfl) H (by show(((b.take k).map UInt8.toNat).length+1)*4<=_;omega) aa ?_;intro rn w H;refine wk ?_;refine⟨sB,(k+1,rn),sB,⟨by dsimp only;omega,?_⟩,by dsimp only;omega⟩;dsimp only;rw[bK hlt,dU];exact H
  rw[bJ aa]at H;obtain⟨V2,hV2,H,hr⟩:=Rel.aJ H;refine wk ?_;exact⟨V2,r,hV2,H.sx,rfl,hr⟩
 | some cs =>
  obtain⟨Iz,mk2⟩:=aga hch;replace H:=H.br 5 1;refine wk ?_;refine(CK (c:=65279) (xs:=[]) H ai ah).use ?_;clear H;rintro v w⟨rm,rfl,H⟩;rw[aL,show bR 65279=oz by decide]at H;obtain⟨V2,hV2,H,hm⟩:=Rel.aJ H;refine wk ((ab0 H.data (hs.up hV2) hm).use ?_);rintro v w⟨⟨r2,rfl,hr2⟩,K⟩;replace H:=Rel.call H K;simp only[aL]at H;rw[show oz.length=3 from rfl]at hr2 |-;obtain⟨L,hL⟩:∃L,L=if b.take 3=oz then b.drop 3 else b:=⟨_,rfl⟩
  rw[<-hL]at hr2;obtain⟨ds,hds⟩:∃ds,ds=if b.take 3=oz then cs.tail else cs:=⟨_,rfl⟩
  have Ty:chars L=some ds:=by
   rw[hL,hds];split
   ·rename_i h;exact mk2 h
   exact hch
  have Dr:L.length<=b.length:=by rw[hL];split<;>simp
  have am9:=hr2.len;have pd:Cells w r2.a (L.map bv):=iu L▸(hr2.up H.data).cells;have hsz:(ByteArray.mk L.toArray).size=L.length:=rfl;refine wk ?_;refine Rel.range al rfl rfl H ?_;intro w bi H;refine wk ?_;refine aP (S:=Nat×Sl×au) al [0,2,3,4,5,6,7,9,10,14,23,26,27,28,29,39,48,53,62,70,73,74,75,76] (λq=>[(8,q.2.1.v)]) (λq w'=>q.1<=L.length/\(chars (L.drop q.1)).isSome=true/\chars L=(chars (L.drop q.1)).map (q.2.2++·)/\q.2.2.length<=q.1/\Rel W V [.obj bi (.stringIter ⟨L.toArray⟩ q.1),.row q.2.1 21 1 (q.2.2.flatMap fC)] V2 w') (λq _=>L.length-q.1) (0,⟨none,0,0⟩,[]) ?_;conv=>whnf
  refine⟨sB,⟨aa,by rw[lj,Ty];rfl,ah,aQ _,H⟩,?_⟩;clear H;rintro⟨p,r8,out⟩w⟨hp,kZ,heq,dF,H⟩;dsimp only at hp kZ heq dF H |-;conv=>whnf
  refine Rel.next H (λhlt w H=>?_) (λhlt=>?_)
  ·have eC:p<L.length:=hlt;obtain⟨c,n,hc,Uj,jT,hn2,hst⟩:=KO kZ eC;rw[Lg hc]at H |-;dsimp only at H |-;refine H.wg ?_;intro _ w H;refine Rel.eH (f:=fC) (l:=out) (x:=c) rfl (λ_=>rfl) (bc.1 rfl) H (by show(out.length+1)*4<=_;omega) aa ?_;intro rn w H;refine wk ?_;refine⟨sB,(p+n,rn,out++[c]),sB,⟨by dsimp only;omega,?_,?_,by dsimp only;rw[ak,bT];omega,H.sx⟩,by dsimp only;omega⟩
   ·dsimp only;rw[hst]at kZ;cases hq:chars (L.drop (p+n))with
    | none=>rw[hq]at kZ;cases kZ
    | some _=>rfl
   dsimp only;rw[heq,hst];exact oy out [c] _
  have eC:¬p<L.length:=hlt;rw[fc aa,KP,Ty]at heq;have MX:out=ds:=by simpa using heq.symm
  rw[MX]at H;have H0:Rel W V [.row r8 21 1 (ds.flatMap fC)] V2 w:=H.sx;clear H;obtain⟨V3,aw,H,hr⟩:=Rel.aJ H0;clear H0;by_cases hpre:b.take 3=oz
  ·rw[bw hpre,ag (Iz.1 hpre)];rw[ag hpre]at hds;rw[hds]at hr;refine wk ?_;exact⟨V3,r8,hV2.trans aw,H.sx,rfl,hr⟩
  rw[bA hpre,ae (λh=>hpre (Iz.2 h))];rw[ae hpre]at hds;rw[hds]at hr;refine wk ?_;exact⟨V3,r8,hV2.trans aw,H.sx,rfl,hr⟩
structure aai(W V:ad)(o:Option (Nat×List eA))(v:aj)(w':ad):Prop where
 ex:∃(V':ad) (e:Int) (r:Sl),Sub V V'/\Rel W V [] V' w'/\(match o with
  | none=>v=.tuple #[.agg (wO e r).toArray,.bool false]
  | some (e',rs)=>e=e'/\v=.tuple #[.agg (wO e r).toArray,.bool true]/\aA eX V' r (aX rs))
theorem ajr:∀q x q',q<=l.length->kx l q=.ok x q'->q'<=l.length:=λ_ _ _ hq h=>(JH hq h).2.1
theorem afo{xs:List bV}{k:Nat}(hk:k<xs.length):tp 3 (xs.take (k+1))=(xs[k]).1:=by rw[bK hk,U8]
theorem JL:∀ {rs:List eA} {p:Nat},sI p rs->∀r∈rs,1<=r.2
 | [],_,_=>by simp
 | x::rs,p,h=>by
  obtain⟨h1,h2,h3,h4⟩:=h;intro r hr;rcases bP.1 hr with rfl|hr
  ·exact h2
  exact JL h4 r hr
theorem Vy{b:ab}:∀(n p q:Nat) (l:List bV),p<=b.length->ja (kx b) n p=.ok l q->∀y∈l,cY y.1/\cY y.2
 | 0,p,q,l,hp,h=>by simp only[ja]at h;cases h;simp
 | n+1,p,q,l,hp,h=>by
  simp only[ja]at h;split at h
  ·cases h
  rename_i x q1 h1;split at h
  ·cases h
  rename_i l' r h2;cases h;obtain⟨a1,a2,a3,a4,a5⟩:=JH hp h1;intro y hy;rcases bP.1 hy with rfl|hy
  ·exact⟨a4,a5⟩
  exact Vy n q1 _ _ a2 h2 y hy
theorem afD{m:Int}{q:Nat}{l:List bV}(hp:p<=b.length)(h:iZ b (kx b) m p=.ok l q):∀y∈l,cY y.1/\cY y.2:=by
 unfold iZ at h;split at h
 ·cases h
 rename_i h1;split at h
 ·cases h
 exact Vy _ _ _ _ (rR hp h1).2.1 h
theorem aiT(hs:aF V s l)(hl:l.length<=1099511627776){p:Nat}(hp:p<=l.length):Reads V 203 [] s (λp=>.agg (eX p).toArray) (λ_ x y=>x=y) p (kx l p):=by
 intro V1 W1 h1 h2;have H:=aG h2;have hs1:=hs.up h1;have hlen:=hs1.len;refine eV Tryz.func203 34 [0,1,4,5,6,7,8,9,19] ?_;refine H.wn ?_;intro w b4 H;refine H.wn ?_;intro w b6 H;refine wk ((Jy H.data hs1 hl hp).use ?_);rintro v w⟨rfl,K⟩;replace H:=H.bd K;cases hn:fN l p with
 | bad c i =>
  have np:=IC hn;have hr:kx l p=.bad c i:=by rw[kx,hn]
  rw[hr];refine H.wn ?_;intro w b8 H;refine H.wg ?_;intro w H;refine dS (id:=3) [b4] [2] [1] [0,1,2,3,4] H ?_;intro w H;refine wk ?_;refine And.intro (λw1 ma=>?_) ?_;focus (obtain⟨_,H1⟩:=Rel.Cd H (i:=2) rfl rfl ma;clear H;have H:=H1;clear H1;((repeat ((conv=>whnf);first|refine an ?_|((first|refine H.qo ?_|refine H.nw ?_);intro w _ H)|refine H.ce ?_|refine H.db ?_|refine ea ?_|refine ol ?_|(refine H.st ?_;(conv=>whnf);intro w H)|refine cT ?_|refine cF ?_|refine cN ?_|refine cM ?_|refine H.lw ?_|refine H.ll ?_));(conv=>whnf));try exact⟨rfl,rfl⟩)
  refine wk ?_;refine Rel.FN H (i:=2) rfl ?_;(conv=>whnf);intro w H;refine H.wg ?_;intro w H;exact⟨V1,(0,0),0,c,i,aS _,H.sx,rfl,rfl,rfl,np⟩
 | ok n q =>
  obtain⟨g1,g2,g3,g4,g5⟩:=rR hp hn;refine H.wn ?_;intro w b8 H;refine H.wg ?_;intro w H;refine(Jy (p:=q) H.data hs1 hl g2).use ?_;rintro v w⟨rfl,K⟩;replace H:=H.bd K;cases hm:fN l q with
  | bad c i =>
   have np:=IC hm;have hr:kx l p=.bad c i:=by rw[kx,hn];simp only;rw[hm]
   rw[hr];refine H.wg ?_;intro w H;refine dS (id:=5) [b4] [5] [4] [0,1,2,3,4,5,6,7] H ?_;intro w H;refine wk ?_;refine And.intro (λw1 ma=>?_) ?_;focus (obtain⟨_,H1⟩:=Rel.Cd H (i:=2) rfl rfl ma;clear H;have H:=H1;clear H1;((repeat ((conv=>whnf);first|refine an ?_|((first|refine H.qo ?_|refine H.nw ?_);intro w _ H)|refine H.ce ?_|refine H.db ?_|refine ea ?_|refine ol ?_|(refine H.st ?_;(conv=>whnf);intro w H)|refine cT ?_|refine cF ?_|refine cN ?_|refine cM ?_|refine H.lw ?_|refine H.ll ?_));(conv=>whnf));try exact⟨rfl,rfl⟩)
   refine wk ?_;refine Rel.FN H (i:=2) rfl ?_;(conv=>whnf);intro w H;refine H.wg ?_;intro w H;exact⟨V1,(n,0),0,c,i,aS _,H.sx,rfl,rfl,rfl,np⟩
  | ok m r =>
   obtain⟨g6,g7,g8,g9,g10⟩:=rR g2 hm;have hr:kx l p=.ok (n,m) r:=by rw[kx,hn];simp only;rw[hm]
   rw[hr];refine H.wg ?_;intro w H;refine dS (id:=5) [b4] [5] [4] [0,1,2,3,4,5,6,7] H ?_;intro w H;refine wk ?_;refine And.intro (λw1 ma=>?_) ?_;focus (obtain⟨_,H1⟩:=Rel.Cd H (i:=2) rfl rfl ma;clear H;have H:=H1;clear H1;((repeat ((conv=>whnf);first|refine an ?_|((first|refine H.qo ?_|refine H.nw ?_);intro w _ H)|refine H.ce ?_|refine H.db ?_|refine ea ?_|refine ol ?_|(refine H.st ?_;(conv=>whnf);intro w H)|refine cT ?_|refine cF ?_|refine cN ?_|refine cM ?_|refine H.lw ?_|refine H.ll ?_));(conv=>whnf));try exact⟨rfl,rfl⟩)
   refine wk ?_;refine Rel.FN H (i:=2) rfl ?_;(conv=>whnf);intro w H;refine H.wg ?_;intro w H;exact⟨V1,(n,m),r,0,0,aS _,H.sx,rfl,rfl,rfl,rfl,rfl⟩
set_option maxRecDepth 100000 in
set_option maxHeartbeats 1000000 in
theorem aiU{W:ad}(hV:Sub V W){s:Sl}{l:ab}(hs:aF V s l)(hl:l.length<=1099511627776){p:Nat}(hp:p<=l.length){m:Int}(hm:0<=m/\m<=4294967296){g:FuncId}{cap:aC}{one:Nat->lE bV}
  (hone:∀q,q<=l.length->Reads V g cap s (λp=>.agg (eX p).toArray) (λ_ x y=>x=y) q (one q)) (hin:∀q x q',q<=l.length->one q=.ok x q'->q'<=l.length) :
  aB 202 [s.v,iv p,iv m,.func (.func g) #[] cap.toArray] W (QC Sl.v (RL eX (λ_ x y=>x=y)) W V (iZ l one m p)):=by
 have H:=aG hV;have hlen:=hs.len;have hR:∀(V V':ad) (x:bV) (y:bV),Sub V V'->((λ_ x y=>x=y):ad->bV->bV->Prop) V x y->((λ_ x y=>x=y):ad->bV->bV->Prop) V' x y:=λ_ _ _ _ _ h=>h;refine eV Tryz.func202 64 [0,1,2,3,8,9,10,11,12,13,14,15,16,17,25,30,40,41,42,53] ?_;refine H.wn ?_;intro w GB H;refine wk ((Jy H.data hs hl hp).use ?_);rintro v w⟨rfl,K⟩;replace H:=H.call K;simp only[aL]at H;cases hn:fN l p with
 | bad c i =>
  have np:=IC hn;have hr:iZ l one m p=.bad c i:=by rw[iZ,hn]
  rw[hr];refine H.wn ?_;intro w KH H;refine H.wg ?_;intro w H;refine dV 3 [] [0,1,2,3] H ?_;intro w H;refine H.wg ?_;intro w H;exact⟨V,⟨none,0,0⟩,0,c,i,aS _,H.sx,rfl,rfl,rfl,np⟩
 | ok n q0 =>
  obtain⟨h1,h2,h3,h4,h5⟩:=rR hp hn;refine H.wn ?_;intro w KH H;by_cases hb:n<0\/m<n
  ·have hr:iZ l one m p=.bad 4 p:=by rw[iZ,hn];simp only;rw[ag hb]
   rw[hr];by_cases hn0:n<0
   all_goals
    refine H.wg ?_;intro w H;refine(Hd H.data 4 p).use ?_;rintro v w⟨rfl,K⟩;replace H:=H.call K;simp only[aL]at H;refine H.wg ?_;intro w H;exact⟨V,⟨none,0,0⟩,0,4,p,aS _,H.sx,rfl,rfl,rfl,ai⟩
  have hr:iZ l one m p=ja one n.toNat q0:=by rw[iZ,hn];simp only;rw[ae hb]
  rw[hr];obtain⟨N,rfl⟩:∃N:Nat,n=N:=⟨n.toNat,aa⟩
  rw[jr];refine H.wg ?_;intro w H;replace H:=H.br 250 2;refine aP (S:=Nat×Nat×Sl×List bV×List bV) al [0,1,2,3,10,11,13,25,30,40] (λk=>[(12,iv k.2.1),(14,k.2.2.1.v),(41,iv k.1)]) (λk w'=>k.1<=N/\k.2.1<=l.length/\k.2.2.2.1.length=k.1/\ja one k.1 q0=.ok k.2.2.2.2 k.2.1/\∃V1,Sub V V1/\Pw (λ_ x y=>x=y) V1 k.2.2.2.1 k.2.2.2.2/\Rel W V [.row k.2.2.1 250 2 (k.2.2.2.1.flatMap eX),.ay KH [iv 0,iv 0] 31,.ay GB [iv 0,iv 0] 31] V1 w') (λk _=>N-k.1) (0,q0,⟨none,0,0⟩,[],[]) ?_;conv=>whnf
  refine⟨sB,⟨aa,h2,rfl,rfl,V,aS _,Pw.nil,H.sx⟩,?_⟩;clear H;rintro⟨k,q,r,xs,ys⟩w⟨hk,hq,hxl,H7,V1,hV1,hpw,H⟩;dsimp only at hk hq hxl H7 hpw H;by_cases hlt:k<N;rotate_left
  ·obtain rfl:k=N:=aa;refine H.wg ?_;intro w H;obtain⟨V2,hV2,H,hrr⟩:=Rel.aJ H;rw[H7];exact⟨V2,r,q,0,0,hV1.trans hV2,H.sx,rfl,rfl,rfl,rfl,xs,hrr,hpw.up hR hV2⟩
  refine wk ((hone q hq V1 w hV1 H.data).use ?_);rintro v w⟨V2,x,n2,c,i,hV2,K,rfl,hres⟩;replace H:=H.call K;simp only[aL]at H;cases ho:one q with
  | bad c' i' =>
   rw[ho]at hres;obtain⟨rfl,rfl,np⟩:=hres;have MR:ja one N q0=.bad c i:=by have:=Vx H7 ho (N-(k+1));rwa [show k+1+(N-(k+1))=N by omega]at this
   rw[MR];refine H.wg ?_;intro _ _ _ _ _ w H;refine dV 11 [] [0,1,2,3] H ?_;intro w H;refine H.wg ?_;intro w H;exact⟨V2,⟨none,0,0⟩,0,c,i,hV1.trans hV2,H.sx,rfl,rfl,rfl,np⟩
  | ok y q' =>rw[ho]at hres;obtain⟨rfl,rfl,rfl,rK⟩:=hres;have D6:=hin q y q' hq ho;refine H.wg ?_;intro _ _ _ _ _ _ _ w H;refine Rel.ub (f:=eX) (l:=xs) (x:=x) rfl (λ_=>rfl) (bc.1 rfl) H (by simp;omega) aa ?_;intro rn w H;refine wk ?_;exact⟨sB,(k+1,q',rn,xs++[x],ys++[y]),sB,⟨aa,D6,by simp[hxl],af9 H7 ho,V2,hV1.trans hV2,(hpw.up hR hV2).snoc rK,H.sx⟩,aa⟩
theorem aiZ(hV:Sub V W){s:Sl}{b:ab}(hs:aF V s b)(hl:b.length<=1000000000):aB 125 [s.v] W (aai W V (lU b)):=by
 have H:=aG hV;have hlen:=hs.len;refine eV Tryz.func125 100 [0,2,3,4,5,6,7,8,9,10,11,14,29,48,50,51,52,53,86] ?_;refine H.wn ?_;intro w b2 H;by_cases h0:b.length=0
 ·have hb:b=[]:=dt h0;have e:lU b=some (0,[]):=by rw[lU,ag hb]
  rw[e];refine H.wg ?_;intro w H;exact⟨V,0,⟨none,0,0⟩,aS _,H.sx,rfl,rfl,aA.nil _ _⟩
 have hb:b≠[]:=λh=>h0 (by rw[h];rfl);have hnr:tP b=none->lU b=none:=λh=>by unfold lU;rw[ae hb,h]
 refine wk ?_;refine(Jy (p:=0) H.data hs aa (cE _)).use ?_;rintro v w⟨rfl,K⟩;replace H:=H.bd K;cases hn:fN b 0 with
 | bad c i =>have np:=IC hn;rw[hnr (by unfold tP;rw[hn])];refine H.wn ?_;intro w b6 H;refine H.wg ?_;intro _ w H;exact⟨V,_,⟨none,0,0⟩,aS _,H.sx,rfl⟩
 | ok c q =>
  obtain⟨g1,g2,g3,g4,g5⟩:=rR (cE _) hn;refine H.wn ?_;intro w b6 H;refine H.wg ?_;intro w H;refine(qV _ _ _ _).use ?_;rintro v w'⟨rfl,rfl⟩;by_cases hc:c<0\/5<=c
  ·rw[hnr (by unfold tP;rw[hn];simp only;rw[ag hc]),bA aa];refine H.wg ?_;intro w H;exact⟨V,_,⟨none,0,0⟩,aS _,H.sx,rfl⟩
  have kf:tP b=(match iZ b (kx b) b.length q with
   | .bad _ _=>none
   | .ok rs q=>if q≠b.length then none else if kn 1000 3 rs=true then some (c.toNat,rs.map NX)else none):=by
   rw[tP,hn]
   simp only
   rw[ae hc]
   rfl
  rw[bw aa];obtain⟨C,rfl⟩:∃C:Nat,c=C:=⟨c.toNat,aa⟩
  refine wk ?_;rw[hlen];refine(aiU (m:=b.length) H.data hs aa g2 (by constructor<;>omega) (λq hq=>aiT hs aa hq) ajr).use ?_;rintro v w⟨V2,x,n,c,i,hV2,K,rfl,hres⟩;replace H:=H.bd K;cases gP:iZ b (kx b) b.length q with
  | bad c' i' =>rw[gP]at hres kf;obtain⟨rfl,rfl,np⟩:=hres;rw[hnr kf];refine H.wg ?_;intro _ w H;exact⟨V2,_,⟨none,0,0⟩,hV2,H.sx,rfl⟩
  | ok xs q' =>
   rw[gP]at hres kf;obtain⟨rfl,rfl,rfl,Nw⟩:=hres;obtain⟨ys,tj,hpw⟩:=Nw;obtain rfl:=hpw.eq;have hxl:=tj.len;simp only at kf;by_cases hq:q'=b.length;rotate_left
   ·rw[ag hq]at kf;rw[hnr kf];refine H.wg ?_;intro _ w H;exact⟨V2,_,⟨none,0,0⟩,hV2,H.sx,rfl⟩
   rw[ae (λh=>h hq)]at kf;have aet:kn 1000 3 ys=false->lU b=none:=λh=>hnr (by rw[kf,ae (by rw[h];simp)]);have Nx:ys.length<=b.length:=by
    unfold iZ at gP;split at gP
    ·cases gP
    split at gP
    ·cases gP
    rename_i h1 h2;have:=(NT (f:=gD) (b:=b) (one:=kx b) (λp q x hp h=>by obtain⟨a1,a2,a3,_⟩:=JH hp h;exact⟨aa,a2,a3⟩) _ _ _ _ (rR g2 h1).2.1 gP).1
    omega
   have hyI:∀y∈ys,cY y.1/\cY y.2:=afD g2 gP;refine H.wg ?_;intro w H;refine aP (S:=Nat) al [0,2,4,5,6,7,11,14,29,48,50,51] (λk=>[(8,iv (pw 1000 (ys.take k))),(52,iv k)]) (λk w'=>k<=ys.length/\kn 1000 3 (ys.take k)=true/\Rel W V [.ay b6 [iv 0,iv 0] 31,.ay b2 (wO 0 ⟨none,0,0⟩) 150] V2 w') (λk _=>ys.length-k) 0 ?_;conv=>whnf
   refine⟨sB,⟨aa,rfl,H.sx⟩,?_⟩;clear H;rintro k w⟨hk,hok,H⟩;dsimp only at hk hok H |-;obtain⟨hl1,hl2,rG⟩:=VZ hok ai;by_cases hlt:k<ys.length
   ·obtain⟨hp,jF,iA⟩:=tj.fF (g:=λx:bV=>iv x.1) (g':=λx:bV=>iv x.2) (λ_=>rfl) hlt;obtain⟨om,te⟩:=hyI _ (bS hlt);have hsp:ys=ys.take k++ys[k]::ys.drop (k+1):=by rw[<-dk hlt,eW]
    obtain⟨x1,dO⟩:∃x,x=(ys[k]).1:=⟨_,rfl⟩
    obtain⟨x2,pt⟩:∃x,x=(ys[k]).2:=⟨_,rfl⟩
    obtain⟨LL,Dq⟩:∃x,x=pw 1000 (ys.take k):=⟨_,rfl⟩
    have hbad:¬(0<=x1/\x1<3/\1<=x2/\x2<=LL/\x1≠tp 3 (ys.take k))->lU b=none:=λh=>aet (by rw[hsp];exact agX (by rw[<-dO,<-pt,<-Dq];exact h));rw[<-Dq]at hl2 rG;rw[<-dO]at jF om;rw[<-pt]at iA te;rw[<-Dq];refine H.wg ?_;intro _ _ w H;by_cases b1:0<=x1/\x1<3;rotate_left
    ·rw[hbad (λh=>b1 ⟨h.1,h.2.1⟩)];refine eJ (id:=13) al mixed [] [0,1,2,3,4,5,6,7,8,9,10,11,12,13,14,15,16,17,18,19,20,21,22,23,24,25,26,27,28,29] av ?_;intro w bG;replace H:=Rel.ext H bG.ext;refine wk ((qV _ _ _ _).use ?_);rintro v w'⟨rfl,rfl⟩;rw[bA aa];refine H.wg ?_;intro w H;exact⟨V2,_,⟨none,0,0⟩,hV2,H.sx,rfl⟩
    by_cases b2:x2<1
    ·rw[hbad (λh=>by omega)];refine eJ (id:=13) al mixed [] [0,1,2,3,4,5,6,7,8,9,10,11,12,13,14,15,16,17,18,19,20,21,22,23,24,25,26,27,28,29] av ?_;intro w bG;replace H:=Rel.ext H bG.ext;refine wk ((qV _ _ _ _).use ?_);rintro v w'⟨rfl,rfl⟩;rw[bw aa];refine H.wg ?_;intro w H;exact⟨V2,_,⟨none,0,0⟩,hV2,H.sx,rfl⟩
    by_cases b3:LL<x2
    ·rw[hbad (λh=>by omega)];refine eJ (id:=13) al mixed [] [0,1,2,3,4,5,6,7,8,9,10,11,12,13,14,15,16,17,18,19,20,21,22,23,24,25,26,27,28,29] av ?_;intro w bG;replace H:=Rel.ext H bG.ext;refine wk ((qV _ _ _ _).use ?_);rintro v w'⟨rfl,rfl⟩;rw[bw aa];refine H.wg ?_;intro w H;exact⟨V2,_,⟨none,0,0⟩,hV2,H.sx,rfl⟩
    have Uz:x1≠tp 3 (ys.take k)->kn 1000 3 (ys.take (k+1))=true:=λh=>by rw[bK hlt,Oc,hok];simp only[kn,Bool.and_true,oJ];rw[<-dO,<-pt,<-Dq];exact bw ⟨b1.1,b1.2,aa,aa,h⟩
    have Up:pw 1000 (ys.take (k+1))=LL-x2:=by rw[bK hlt,Vf,<-Dq,<-pt]
    by_cases hk0:k=0
    ·have rG:tp 3 (ys.take k)=3:=by rw[hk0];rfl
     refine eJ (id:=13) al mixed [] [0,1,2,3,4,5,6,7,8,9,10,11,12,13,14,15,16,17,18,19,20,21,22,23,24,25,26,27,28,29] av ?_;intro w bG;replace H:=Rel.ext H bG.ext;refine wk ((qV _ _ _ _).use ?_);rintro v w'⟨rfl,rfl⟩;rw[bw aa];refine wk ?_;exact⟨sB,k+1,⟨ax (λz=>some (iv z)) Up.symm,rfl,trivial⟩,⟨aa,Uz (by rw[rG];omega),H.sx⟩,aa⟩
    obtain⟨j,rfl⟩:∃j,k=j+1:=⟨k-1,aa⟩
    have Um:j<ys.length:=aa;obtain⟨_,vW,_⟩:=tj.fF (g:=λx:bV=>iv x.1) (g':=λx:bV=>iv x.2) (λ_=>rfl) Um;have rG:=afo Um;obtain⟨x3,Em⟩:∃x,x=(ys[j]).1:=⟨_,rfl⟩
    rw[<-Em]at vW rG;have ek:(((j+1:Nat):Int)-1)=((j:Nat):Int):=aa;by_cases b4:x1=x3
    ·rw[hbad (λh=>h.2.2.2.2 (by rw[rG];exact b4))];refine eJ (id:=13) al mixed [] [0,1,2,3,4,5,6,7,8,9,10,11,12,13,14,15,16,17,18,19,20,21,22,23,24,25,26,27,28,29] av ?_;intro w bG;replace H:=Rel.ext H bG.ext;refine wk ((qV _ _ _ _).use ?_);rintro v w'⟨rfl,rfl⟩;rw[bw aa];refine wk ?_;rw[ek];refine H.wg ?_;intro w H;exact⟨V2,_,⟨none,0,0⟩,hV2,H.sx,rfl⟩
    refine eJ (id:=13) al mixed [] [0,1,2,3,4,5,6,7,8,9,10,11,12,13,14,15,16,17,18,19,20,21,22,23,24,25,26,27,28,29] av ?_;intro w bG;replace H:=Rel.ext H bG.ext;refine wk ((qV _ _ _ _).use ?_);rintro v w'⟨rfl,rfl⟩;rw[bw aa];refine wk ?_;rw[ek];refine wk ?_;exact⟨sB,j+1+1,⟨ax (λz=>some (iv z)) Up.symm,rfl,trivial⟩,⟨aa,Uz (by rw[rG];exact b4),H.sx⟩,aa⟩
   obtain rfl:k=ys.length:=aa;rw[fA]at hok;rw[ag hok]at kf;obtain⟨rs,bI,ho,qj⟩:=Od (p:=3) hok ai;rw[bI,NY,jr]at kf;rw[bI]at tj;have hrl:rs.length=ys.length:=by rw[bI];simp[aX]
   have hos:=B9 ho;have hrd:lU b=if fX C (eZ rs)=true then none else some (C,rs):=by unfold lU;rw[ae hb,kf]
   rw[hrd];refine H.wg ?_;intro _ _ w H;refine eJ (id:=18) al mixed [2] [0,1,2,3,4,5] av ?_;intro w bG;replace H:=Rel.ext H bG.ext;refine wk ?_;refine(J6 H.data C tj aa (JL ho)).use ?_;rintro v w⟨rfl,K⟩;replace H:=H.bd K;cases ht:fX C (eZ rs)with
   | true =>rw[ag rfl];refine H.wg ?_;intro w H;exact⟨V2,_,_,hV2,H.sx,rfl⟩
   | false =>rw[ae ah];refine H.wg ?_;intro w H;exact⟨V2,_,_,hV2,H.sx,rfl,rfl,tj⟩
theorem YM(hV:Sub V W)(hT:Lib.Utf8Tabs 0 1 V){s:Sl}{l:ab}(hs:aF V s l)(hl:l.length<=1099511627776):aB 55 [s.v] W (mY W V (cH (iH l) l.length)):=by
 have H:=aG hV;have hlen:=hs.len;refine eV Tryz.func55 35 [0,2,3,4,5,6,7,8,11,20] ?_;refine H.wn ?_;intro w b2 H;refine H.wn ?_;intro w b4 H;by_cases dz:1000<l.length
 ·have e:cH (iH l) l.length=⟨zeroV,[],3, -1⟩:=by unfold cH;rw[ag dz]
  rw[e];refine wk (H.us (Hc H.data 3 (-1)) ?_);intro w H;refine H.wg ?_;intro _ w H;exact⟨V,aV,⟨none,0,0⟩,aS _,H.sx,rfl,cG _,aA.nil _ _⟩
 refine wk ?_;refine(ace H.data hT hs aa).use ?_;rintro q w⟨V2,r,hV2,K,rfl,hr⟩;replace H:=H.bd K;obtain⟨he,e5,hch⟩:=LB l;obtain⟨l1,l2⟩:=Lk hch he;obtain⟨cs,hcs⟩:∃cs,cs=(gO l).1:=⟨_,rfl⟩
 obtain⟨e,tc⟩:∃e,e=(gO l).2:=⟨_,rfl⟩
 rw[<-hcs]at hr hch l1 l2;rw[<-tc]at e5 |-;have hto:iH l=if cs.any (λc=>decide (mB c))=true then none else some (kC ((lines cs).1.flatMap bR),lV e (lines cs).2):=by unfold iH;rw[<-hcs,<-tc]
 refine wk ?_;refine H.us (abN (g:=121) (caps:=[]) H.data hr aa (λc=>decide (mB c)) (λx _ w hw=>aca hw x)) ?_;intro w H;cases hd:cs.any (λc=>decide (mB c))with
 | true =>
  rw[hd,ag rfl]at hto;have e:cH (iH l) l.length=⟨zeroV,[],21, -1⟩:=by unfold cH;rw[ae dz,hto]
  rw[e];refine wk (H.us (Hc H.data 21 (-1)) ?_);intro w H;refine H.wg ?_;intro _ w H;exact⟨V2,aV,⟨none,0,0⟩,hV2,H.sx,rfl,cG _,aA.nil _ _⟩
 | false =>
  rw[hd,ae ah]at hto;have e2:cH (iH l) l.length=⟨kC ((lines cs).1.flatMap bR),lV e (lines cs).2,0,0⟩:=by unfold cH;rw[ae dz,hto]
  rw[e2];obtain⟨a1,a2,a3,a4,a5⟩:=Er _ cs (aQ _);obtain⟨r1,r2,r3,r4,r5⟩:=nJ (lines cs).2;have ho:=B9 (r3 a2 3 (by
   cases hk:(lines cs).2 with
   | nil=>simp
   | cons k ks=>have:=a2 k (by rw[hk];simp);simp;omega))
  have hr1:∀r∈cL (lines cs).2,1<=r.2:=JL (r3 a2 3 (by
   cases hk:(lines cs).2 with
   | nil=>simp
   | cons k ks=>have:=a2 k (by rw[hk];simp);simp;omega))
  refine wk ?_;refine(ahI H.data hr aa hch).use ?_;rintro q w⟨V3,ra,rb,aw,K,rfl,hra,iX⟩;replace H:=H.bd K;refine wk ?_;refine(adh H.data e5 iX aa (λr hr=>⟨(ho.2 r hr).1,hr1 r hr,by have:=(ho.2 r hr).2;omega⟩)).use ?_;rintro q w⟨rc,rfl,K⟩;replace H:=H.cq K;rw[r1]at H;have hres:(if fX e (lines cs).2=true then[]else nO e (cL (lines cs).2))=lV e (lines cs).2:=rfl;rw[hres]at H;obtain⟨V4,ar,H,cP⟩:=Rel.aJ H;refine H.wg ?_;intro _ w H;exact⟨V4,ft ra,rc,(hV2.trans aw).trans ar,H.sx,rfl,tS (hra.up ar),cP⟩
abbrev LN(f:FuncId):aj:=.func (.func f) #[] #[]
abbrev oD(a b c:FuncId):aj:=.agg #[LN a,LN b,LN c]
def ug:Nat->aj
 | 0=>.iface 58 (.agg #[])
 | 1=>.iface 73 (oD 55 56 57)
 | 2=>.iface 73 (oD 58 59 60)
 | 3=>.iface 73 (oD 61 62 63)
 | 4=>.iface 73 (oD 64 65 66)
 | 5=>.iface 73 (oD 67 68 69)
 | _=>.iface 73 (oD 70 71 72)
theorem agm{x:aj}(hk:k (.iface 58 x) w):bE Tryz.prog (Instr.makeInterface 58 x) w k:=.of (by simp[Instr.makeInterface,run_underlying Tryz.underlying58]) hk
theorem agl{x:aj}(hk:k (.iface 73 x) w):bE Tryz.prog (Instr.makeInterface 73 x) w k:=.of (by simp[Instr.makeInterface,run_underlying Tryz.underlying73]) hk
theorem agk(u:aj):Gk Tryz.prog 73 u "scriptorium/convert.to" 401 u:=λw=>by kernel_rfl
theorem acW(hV:Sub V W)(c i:Int):aB 21 [iv c,iv i] W λv w'=>v=kV c i/\Rel W V [] V w':=by have H:=aG hV;refine eV Tryz.func21 8 [0,1,4] ?_;refine H.wg ?_;intro _ _ w H;exact H.sx
theorem SY(hV:Sub V W){z:Int}(hz:0<=z/\z<7):aB 22 [iv z] W λv w'=>v=.tuple #[ug z.toNat,.bool true]/\Rel W V [] V w':=by
 have H:=aG hV;refine eV Tryz.func22 29 [0,2,3,4,25] ?_;refine wk ?_;refine agm ?_;refine wk ?_
 iterate 6
  refine agl ?_;refine wk ?_
 refine bE.of (v:=.agg #[ug 0,ug 1,ug 2,ug 3,ug 4,ug 5,ug 6]) (w':=W) av ?_;refine H.wn ?_;intro w b4 H;have h7:z=0\/z=1\/z=2\/z=3\/z=4\/z=5\/z=6:=aa;rcases h7 with rfl|rfl|rfl|rfl|rfl|rfl|rfl
 all_goals
  refine H.wg ?_;intro w H;exact H.sx
theorem BA(hV:Sub V W){a b c:FuncId}{s:Sl}{x:Ky}(hto:∀ {W:ad},Sub V W->tF a [s.v].toArray W (mY W V x)):aB 401 [oD a b c,s.v] W (mY W V x):=by have H:=aG hV;refine eV Tryz.func401 14 [0,1,2,4,5,6] ?_;refine H.wn ?_;intro w b2 H;refine H.wn ?_;intro w b4 H;refine H.wn ?_;intro w b6 H;refine wk ((hto H.data).use ?_);rintro q w⟨V2,h,r,hV2,K,rfl,hv,hr⟩;replace H:=Rel.call H K;simp only[aL]at H;refine H.wg ?_;intro _ w H;exact⟨V2,h,r,hV2,H.sx,rfl,hv,hr⟩
theorem ahb(hV:Sub V W){a b c:FuncId}{h:VH}{s:Sl}{x:ab×Int×Int}(hfr:∀ {W:ad},Sub V W->tF b [gw h,s.v].toArray W (CC W V x)):aB 400 [oD a b c,gw h,s.v] W (CC W V x):=by have H:=aG hV;refine eV Tryz.func400 15 [0,1,2,3,4,6,7] ?_;refine H.wn ?_;intro w b3 H;refine H.wn ?_;intro w b4 H;refine H.wn ?_;intro w b7 H;refine wk ((hfr H.data).use ?_);rintro q w⟨V2,r,hV2,K,rfl,hr⟩;replace H:=Rel.call H K;simp only[aL]at H;refine H.wg ?_;intro w H;exact⟨V2,r,hV2,H.sx,rfl,hr⟩
structure pM(V:ad):Prop where
 tb:qS V
 nm:pQ V
 mb:pO V
 mt:vm V
theorem pM.up{V V':ad}(h:pM V)(k:Sub V V'):pM V':=⟨Ck h.tb k,h.nm.up k,h.mb.up k,h.mt.up k⟩
def qK:Nat->ab->Option (ao×ab)
 | 0=>gg
 | 1=>fh
 | 2=>hC
 | 3=>gU
 | 4=>iG
 | _=>iH
def afk:Nat->Int
 | 0=>3
 | 1=>2
 | 2=>6
 | 3=>4
 | 4=>5
 | _=>1
theorem xB{j:Nat}{x:ao×ab}(hj:j<6)(hn:∀i,i<j->qK i l=none)(hx:qK j l=some x):kT l=xA (afk j) x:=by
 have h6:j=0\/j=1\/j=2\/j=3\/j=4\/j=5:=aa;have g:=λi hi=>hn i hi;rcases h6 with rfl|rfl|rfl|rfl|rfl|rfl<;>unfold kT
 ·have h0:gg l=some x:=hx;rw[h0];rfl
 ·have h0:gg l=none:=hn 0 aa;have h1:fh l=some x:=hx;rw[h0,h1];rfl
 ·have h0:gg l=none:=hn 0 aa;have h1:fh l=none:=hn 1 aa;have h2:hC l=some x:=hx;rw[h0,h1,h2];rfl
 ·have h0:gg l=none:=hn 0 aa;have h1:fh l=none:=hn 1 aa;have h2:hC l=none:=hn 2 aa;have h3:gU l=some x:=hx;rw[h0,h1,h2,h3];rfl
 ·have h0:gg l=none:=hn 0 aa;have h1:fh l=none:=hn 1 aa;have h2:hC l=none:=hn 2 aa;have h3:gU l=none:=hn 3 aa;have h4:iG l=some x:=hx;rw[h0,h1,h2,h3,h4];rfl
 have h0:gg l=none:=hn 0 aa;have h1:fh l=none:=hn 1 aa;have h2:hC l=none:=hn 2 aa;have h3:gU l=none:=hn 3 aa;have h4:iG l=none:=hn 4 aa;have h5:iH l=some x:=hx;rw[h0,h1,h2,h3,h4,h5];rfl
theorem RA(hn:∀i,i<6->qK i l=none):kT l=(0,.mk 2 0 l [] [],[]):=by unfold kT;have h0:gg l=none:=hn 0 aa;have h1:fh l=none:=hn 1 aa;have h2:hC l=none:=hn 2 aa;have h3:gU l=none:=hn 3 aa;have h4:iG l=none:=hn 4 aa;have h5:iH l=none:=hn 5 aa;rw[h0,h1,h2,h3,h4,h5]
abbrev EW(k:Int)(h:VH)(r:Sl):aj:=.agg (iv k::(a8 h++[r.v])).toArray
structure Z0(W V:ad)(x:vk×Int×Int)(q:aj)(w':ad):Prop where
 ex:∃(V':ad) (h:VH) (r:Sl),Sub V V'/\Rel W V [] V' w'/\q=.tuple #[EW x.1.1 h r,kV x.2.1 x.2.2]/\cb V' h x.1.2.1/\aF V' r x.1.2.2
def sX(l:ab):vk×Int×Int:=if 1000<l.length then((0,zeroV,[]),3, -1)else(kT l,0,0)
theorem ahH(hV:Sub V W){s:Sl}{l:ab}(hs:aF V s l)(hl:l.length<=1000000):aB 23 [.agg #[],s.v] W (mY W V ⟨.mk 2 0 l [] [],[],0,0⟩):=by have H:=aG hV;refine eV Tryz.func23 11 [0,1,4,5,6] ?_;refine H.wn ?_;intro w b2 H;refine H.wn ?_;intro w b4 H;refine H.wn ?_;intro w b6 H;refine wk ?_;refine(xz H.data hs aa).use ?_;rintro q w⟨r,rfl,K⟩;replace H:=H.cq K;obtain⟨V2,hV2,H,hr⟩:=Rel.aJ H;refine H.wg ?_;intro _ w H;exact⟨V2,ft r,⟨none,0,0⟩,hV2,H.sx,rfl,tS hr,aA.nil _ _⟩
theorem af5(hV:Sub V W){s:Sl}{l:ab}(hs:aF V s l)(hl:l.length<=1048576):aB 401 [oD 61 62 63,s.v] W (mY W V (cH (qK 0 l) l.length)):=BA hV λh=>ak1 h hs aa
theorem af4(hV:Sub V W){s:Sl}{l:ab}(hs:aF V s l)(hl:l.length<=1048576):aB 401 [oD 58 59 60,s.v] W (mY W V (cH (qK 1 l) l.length)):=BA hV λh=>ak0 h hs aa
theorem af3(hV:Sub V W)(hT:pM V){s:Sl}{l:ab}(hs:aF V s l)(hl:l.length<=1048576):aB 401 [oD 70 71 72,s.v] W (mY W V (cH (qK 2 l) l.length)):=BA hV λh=>akZ h hT.mt hs aa
theorem af6(hV:Sub V W)(hT:pM V){s:Sl}{l:ab}(hs:aF V s l)(hl:l.length<=1048576):aB 401 [oD 64 65 66,s.v] W (mY W V (cH (qK 3 l) l.length)):=BA hV λh=>ak2 h hT.tb hT.mb hs aa
theorem af7(hV:Sub V W)(hT:pM V){s:Sl}{l:ab}(hs:aF V s l)(hl:l.length<=1048576):aB 401 [oD 67 68 69,s.v] W (mY W V (cH (qK 4 l) l.length)):=BA hV λh=>ak3 h hT.nm hs aa
theorem af8(hV:Sub V W)(hT:pM V){s:Sl}{l:ab}(hs:aF V s l)(hl:l.length<=1048576):aB 401 [oD 55 56 57,s.v] W (mY W V (cH (qK 5 l) l.length)):=BA hV λh=>YM h hT.tb hs aa
theorem J3(hV:Sub V W)(hT:pM V){s:Sl}{l:ab}(hs:aF V s l)(hl:l.length<=1048576):aB 9 [s.v] W (Z0 W V (sX l)):=by
 have H:=aG hV;have hlen:=hs.len;refine eV Tryz.func9 56 [0,2,3,5,6,8,9,10,11,13,16,19,20,21,22,39] ?_;refine H.wn ?_;intro w b2 H;refine H.wn ?_;intro w b3 H;by_cases dz:1000<l.length
 ·have e:sX l=((0,zeroV,[]),3, -1):=ag dz;rw[e];refine wk (H.us (acW H.data _ _) ?_);intro w H;refine H.wg ?_;intro _ w H;exact⟨V,aV,⟨none,0,0⟩,aS _,H.sx,rfl,cG _,aA.nil _ _⟩
 have e:sX l=(kT l,0,0):=ae dz;rw[e];refine H.wn ?_;intro w b4 H;refine wk ?_;refine aM.cut 0 (λ_:Unit=>[(0,s.v),(2,.pointer (some ⟨b2,0,none⟩)),(3,.pointer (some ⟨b3,0,none⟩))]) (λ_ w'=>(∀i,i<6->qK i l=none)/\∃V',Sub V V'/\Rel W V [.ay b3 [iv 0,iv 0] 31,.ay b2 (iv 0::(a8 aV++[.slice none 0 0])) 29] V' w') ?_ ?_
 ·refine aP (S:=Nat) al [0,2,3,11,13,16,19,20] (λj=>[(21,iv j)]) (λj w'=>j<=6/\(∀i,i<j->qK i l=none)/\∃V',Sub V V'/\Rel W V [.ay b4 [iv 3,iv 2,iv 6,iv 4,iv 5,iv 1] 3,.ay b3 [iv 0,iv 0] 31,.ay b2 (iv 0::(a8 aV++[.slice none 0 0])) 29] V' w') (λj _=>6-j) 0 ?_;conv=>whnf
  refine⟨sB,⟨aa,λi hi=>absurd hi aa,V,aS _,H.sx⟩,?_⟩;clear H;rintro j w⟨hj,hn,V1,hV1,H⟩;by_cases h6:j=6
  ·subst h6;refine wk ?_;exact⟨(),sB,hn,V1,hV1,H.sx⟩
  have hj6:j<6:=aa;have h7:j=0\/j=1\/j=2\/j=3\/j=4\/j=5:=aa;rcases h7 with rfl|rfl|rfl|rfl|rfl|rfl
  all_goals
   refine wk ?_;refine H.us (SY H.data ai) ?_;intro w H;refine wk ?_;refine⟨_,_,agk _,?_⟩
   first
    | refine(af5 H.data (hs.up hV1) hl).use ?_
    | refine(af4 H.data (hs.up hV1) hl).use ?_
    | refine(af3 H.data (hT.up hV1) (hs.up hV1) hl).use ?_
    | refine(af6 H.data (hT.up hV1) (hs.up hV1) hl).use ?_
    | refine(af7 H.data (hT.up hV1) (hs.up hV1) hl).use ?_
    | refine(af8 H.data (hT.up hV1) (hs.up hV1) hl).use ?_
   rintro q w⟨V2,h,r,hV2,K,rfl,hv,hr⟩;replace H:=H.bd K;generalize ho:qK _ l=o at hv hr |-;unfold cH at hv hr |-;rw[ae dz]at hv hr |-;cases o with
   | none =>
    dsimp only at hv hr |-;refine H.wn ?_;intro w b8 H;refine H.wn ?_;intro w GB H;refine H.wg ?_;intro _ w H
    first
     | refine⟨sB,1,sB,⟨aa,?_,V2,hV1.trans hV2,H.sx⟩,aa⟩
     | refine⟨sB,2,sB,⟨aa,?_,V2,hV1.trans hV2,H.sx⟩,aa⟩
     | refine⟨sB,3,sB,⟨aa,?_,V2,hV1.trans hV2,H.sx⟩,aa⟩
     | refine⟨sB,4,sB,⟨aa,?_,V2,hV1.trans hV2,H.sx⟩,aa⟩
     | refine⟨sB,5,sB,⟨aa,?_,V2,hV1.trans hV2,H.sx⟩,aa⟩
     | refine⟨sB,6,sB,⟨aa,?_,V2,hV1.trans hV2,H.sx⟩,aa⟩
    intro i hi;rcases Nat.lt_succ_iff_lt_or_eq.1 hi with h|rfl
    ·exact hn i h
    exact ho
   | some x =>rw[xB hj6 hn ho];dsimp only at hv hr |-;refine H.wn ?_;intro w b8 H;refine H.wn ?_;intro w GB H;refine H.wg ?_;intro _ _ _ w H;exact⟨V2,h,r,hV1.trans hV2,H.sx,rfl,hv,hr⟩
 clear H;rintro⟨⟩w⟨hn,V1,hV1,H⟩;rw[RA hn];refine wk ?_;refine(ahH H.data (hs.up hV1) aa).use ?_;rintro q w⟨V2,h,r,hV2,K,rfl,hv,hr⟩;replace H:=H.bd K;dsimp only at hv hr |-;refine H.wn ?_;intro w KG H;refine H.wn ?_;intro w KH H;refine H.wg ?_;intro _ w H;refine dS (id:=12) [b2] [3] [2] [0,1,2,3,4] H ?_;intro w H;refine wk ?_;refine And.intro (λw1 ma=>?_) ?_;focus (obtain⟨_,H1⟩:=Rel.Cd H (i:=3) rfl rfl ma;clear H;have H:=H1;clear H1;((repeat ((conv=>whnf);first|refine an ?_|((first|refine H.qo ?_|refine H.nw ?_);intro w _ H)|refine H.ce ?_|refine H.db ?_|refine ea ?_|refine ol ?_|(refine H.st ?_;(conv=>whnf);intro w H)|refine cT ?_|refine cF ?_|refine cN ?_|refine cM ?_|refine H.lw ?_|refine H.ll ?_));(conv=>whnf));try exact⟨rfl,rfl⟩)
 refine wk ?_;refine Rel.FN H (i:=3) rfl ?_;(conv=>whnf);intro w H;refine H.wg ?_;intro w H;exact⟨V2,h,⟨none,0,0⟩,hV1.trans hV2,H.sx,rfl,hv,aA.nil _ _⟩
theorem Zf{c:Nat}(h:c≠10)(r ks:au):iU (c::r) ks=(iU r ks).map (c::·):=by simp only[iU];rw[ae h]
theorem Zd(r:au)(k:Nat)(ks:au):iU (10::r) (k::ks)=(iU r ks).map (De k++·):=by simp only[iU,if_true]
theorem Ze(r:au):iU (10::r) []=none:=by simp only[iU,if_true]
theorem XS(k n:Nat)(rs:List eA):eZ ((k,n+1)::rs)=k::eZ ((k,n)::rs):=rfl
theorem Pl(k:Nat)(rs:List eA):eZ ((k,0)::rs)=eZ rs:=rfl
theorem Pm(ds:List eA)(k n:Nat)(rs:List eA):((aX (ds++(k,n+1)::rs)).flatMap eX).set (ds.length*2+1) (iv (n:Int))=(aX (ds++(k,n)::rs)).flatMap eX:=by
 have hl:((aX ds).flatMap eX).length=ds.length*2:=by rw[kW (n:=2) (λ_=>rfl)];simp[aX]
 unfold aX;rw[dU,cw,dU,cw];unfold aX at hl;rw[Jd _ _ aa,hl,show ds.length*2+1-ds.length*2=1 by omega];rfl
theorem PG{a:Option Addr}(h:Plain a){l m n:Nat}(hm:m≠l):bo a l m n=some ⟨bW a,bM a+l*n,none⟩:=by have:=zx h (l:=l) (m:=m) (size:=n);rw[Plain,zv,zw h hm]at this;exact this
theorem ada{f:α->aC}{l:List α}(h:∀x,(f x).all Value.oneCell'=true):∀u∈l.flatMap f,u.oneCell'=true:=by intro u hu;obtain⟨x,_,hx⟩:=List.mem_flatMap.1 hu;exact bc.1 (h x) u hx
structure aan(rc r7:Sl)(d:Nat)(rs:List eA):Prop where
 len:r7.len=rs.length
 cap:r7.len<=r7.cap
 at_:rs≠[]->r7.a=some ⟨bW rc.a,bM rc.a+d*2,none⟩
theorem abD(hV:Sub V W){s:Sl}{l:List bV}(hs:aA eX V s l)(hl:l.length<=1000000000):aB 205 [s.v] W λv w'=>∃t:Sl,v=t.v/\Rel W V [.row t 250 2 (l.flatMap eX)] V w':=by
 have H:=aG hV;have hlen:=hs.len;refine eV Tryz.func205 8 [0,2,4] ?_;rcases s with⟨_|p,n,c⟩
 ·have qh:l=[]:=by
   rcases l with _|⟨b,l⟩
   ·rfl
   have:=hs.cells.1 (by simp[eX]);simp[Plain]at this
  subst qh;refine wk ?_;exact⟨⟨none,0,0⟩,rfl,H.br _ _⟩
 refine H.wn ?_;intro w b5 H;refine wk ?_;replace H:=H.gh (n:=0) (e:=250) (sz:=2) rfl (by simp[maxLen]);refine Rel.QR (s:=⟨some ⟨b5,0,none⟩,0,0⟩) (x:=⟨some p,n,c⟩) al rfl rfl rfl rfl rfl ai H (hs.up H.data).cells (kW (n:=2) (λ_=>rfl) l |>.trans (by rw[<-hlen])) (ada (λ_=>rfl)) (by simp;dsimp only at hlen;omega) (by simp;dsimp only at hlen;omega) ?_;intro rn w H yx;refine wk ?_;exact⟨rn,rfl,H⟩
theorem afj(hV:Sub V W){s:Sl}{t:ab}(hs:aF V s t)(htl:t.length<=1048576){l:au}(hc:chars t=some l){e:Nat}{q:Sl}{rs:List eA}(hq:aA eX V q (aX rs))(hrl:rs.length<=1000)(hr1:∀r∈rs,r.1<3/\1<=r.2/\r.2<=1000)(htr:fX e (eZ rs)=true->rs=[]) :
  aB 127 [s.v,.agg (wO e q).toArray] W (QD W V (if fX e (eZ rs)=true then some l else iU l (eZ rs))):=by
 have H:=aG hV;have hlen:=hs.len;have dK:(aX rs).length=rs.length:=by simp[aX]
 have hsz:(ByteArray.mk t.toArray).size=t.length:=rfl;refine eV Tryz.func127 69 [0,1,3,4,5,6,7,9,15,16,17,24,31,35,36,41,46,62] ?_;refine H.wn ?_;intro w b3 H;refine wk ?_;refine(abD H.data hq aa).use ?_;rintro v w⟨rc,rfl,K⟩;replace H:=H.cq K;have pd:Cells w s.a (t.map bv):=iu t▸(hs.up H.data).cells;have UE:=H.dW (i:=0) rfl (λ_=>rfl) ai;refine wk ?_;replace H:=H.br 21 1;refine Rel.range al rfl rfl H ?_;intro w bi H;refine wk ?_;cases ht:fX e (eZ rs)with
 | true =>
  have bI:=htr ht;rw[ag rfl];refine aP (S:=Nat×Sl×au) al [0,1,3,15] (λq=>[(6,q.2.1.v),(7,rc.v)]) (λq' w'=>q'.1<=t.length/\(chars (t.drop q'.1)).isSome=true/\chars t=(chars (t.drop q'.1)).map (q'.2.2++·)/\q'.2.2.length<=q'.1/\Rel W V [.obj bi (.stringIter ⟨t.toArray⟩ q'.1),.row q'.2.1 21 1 (q'.2.2.flatMap fC),.ay b3 (wO e q) 150] V w') (λq _=>t.length-q.1) (0,⟨none,0,0⟩,[]) ?_;conv=>whnf
  refine⟨sB,⟨aa,by rw[lj,hc];rfl,ah,aQ _,H.sx⟩,?_⟩;clear H;rintro⟨p,r6,out⟩w⟨hp,kZ,heq,dF,H⟩;dsimp only at hp kZ heq dF H |-;conv=>whnf
  refine Rel.next H (λhlt w H=>?_) (λhlt=>?_)
  ·have eC:p<t.length:=hlt;obtain⟨c,n,gZ,Uj,jT,hn2,hst⟩:=KO kZ eC;rw[Lg gZ]at H |-;dsimp only at H |-;have rF:(chars (t.drop (p+n))).isSome=true:=by
    rw[hst]at kZ;cases hq:chars (t.drop (p+n))with
    | none=>rw[hq]at kZ;cases kZ
    | some _=>rfl
   by_cases h10:c=10
   ·refine wk ?_;refine H.us (J6 H.data e hq aa (λr hr=>(hr1 r hr).2.1)) ?_;intro w H;rw[ht];refine H.wg ?_;intro _ w H;refine Rel.eH (f:=fC) (l:=out) (x:=c) rfl (λ_=>rfl) (bc.1 rfl) H (by show(out.length+1)*4<=_;omega) aa ?_;intro rn w H;refine wk ?_;refine⟨sB,(p+n,rn,out++[c]),sB,⟨by dsimp only;omega,by dsimp only;exact rF,?_,by dsimp only;rw[ak,bT];omega,H.sx⟩,by dsimp only;omega⟩;dsimp only;rw[heq,hst];exact oy out [c] _
   refine H.wg ?_;intro _ w H;refine Rel.eH (f:=fC) (l:=out) (x:=c) rfl (λ_=>rfl) (bc.1 rfl) H (by show(out.length+1)*4<=_;omega) aa ?_;intro rn w H;refine wk ?_;refine⟨sB,(p+n,rn,out++[c]),sB,⟨by dsimp only;omega,by dsimp only;exact rF,?_,by dsimp only;rw[ak,bT];omega,H.sx⟩,by dsimp only;omega⟩;dsimp only;rw[heq,hst];exact oy out [c] _
  have eC:¬p<t.length:=hlt;rw[fc aa,KP,hc]at heq;have MX:out=l:=by simpa using heq.symm
  rw[MX]at H;have H0:Rel W V [.row r6 21 1 (l.flatMap fC)] V w:=H.sx;clear H;obtain⟨V3,aw,H,hr⟩:=Rel.aJ H0;clear H0;have hz:rc.len=0:=by rw[UE,dK,bI];rfl
  refine wk ?_;exact⟨V3,r6,aw,H.sx,by rw[bw aa],hr⟩
 | false =>
  rw[ae ah];refine aP (S:=Nat×Sl×au×Sl×List eA×List eA) al [0,1,3,15] (λq=>[(6,q.2.1.v),(7,q.2.2.2.1.v)]) (λz w'=>z.1<=t.length/\(chars (t.drop z.1)).isSome=true/\(∀r,chars (t.drop z.1)=some r->iU l (eZ rs)=(iU r (eZ z.2.2.2.2.2)).map (z.2.2.1++·))/\z.2.2.1.length<=2*z.1/\aan rc z.2.2.2.1 z.2.2.2.2.1.length z.2.2.2.2.2/\(∀r∈z.2.2.2.2.2,r.1<3/\1<=r.2/\r.2<=1000)/\Rel W V [.obj bi (.stringIter ⟨t.toArray⟩ z.1),.row z.2.1 21 1 (z.2.2.1.flatMap fC),.row rc 250 2 ((aX (z.2.2.2.2.1++z.2.2.2.2.2)).flatMap eX),.ay b3 (wO e q) 150] V w') (λq _=>t.length-q.1) (0,⟨none,0,0⟩,[],rc,[],rs) ?_;conv=>whnf
  refine⟨sB,⟨aa,by rw[lj,hc];rfl,λr hr=>?_,aQ _,⟨by dsimp only;omega,?_,λhne=>?_⟩,hr1,H⟩,?_⟩
  ·dsimp only at hr |-;rw[lj,hc]at hr;cases hr;simp
  ·exact(H.cV (i:=2) rfl (λ_=>rfl) ai).cap
  ·have hp:=(H.cV (i:=2) rfl (λ_=>rfl) ai).cells.1 (by
    cases rs with
    | nil=>exact absurd rfl hne
    | cons r rs=>simp[aX])
   dsimp only[aK];rw[zi,ln];exact hp
  clear H;rintro⟨p,r6,out,r7,ds,rs'⟩w⟨hp,kZ,hu,dF,hR,ti,H⟩;dsimp only at hp kZ hu dF hR ti H |-;have vX:=H.dW (i:=1) rfl (λ_=>rfl) ai;have UE:=H.dW (i:=2) rfl (λ_=>rfl) ai;have ael:(aX (ds++rs')).length=ds.length+rs'.length:=by simp[aX]
  have qc:=hR.len;have hRc:=hR.cap;conv=>whnf
  refine Rel.next H (λhlt w H=>?_) (λhlt=>?_)
  ·have eC:p<t.length:=hlt;obtain⟨c,n,gZ,Uj,jT,hn2,hst⟩:=KO kZ eC;rw[Lg gZ]at H |-;dsimp only at H |-;have rF:(chars (t.drop (p+n))).isSome=true:=by
    rw[hst]at kZ;cases hq:chars (t.drop (p+n))with
    | none=>rw[hq]at kZ;cases kZ
    | some _=>rfl
   obtain⟨X,hX⟩:∃X,chars (t.drop (p+n))=some X:=Option.isSome_iff_exists.1 rF;have hu2:=hu (c::X) (by rw[hst,hX];rfl);by_cases h10:c=10;rotate_left
   ·rw[Zf h10]at hu2;refine H.wg ?_;intro _ w H;refine Rel.eH (f:=fC) (l:=out) (x:=c) rfl (λ_=>rfl) (bc.1 rfl) H (by show(out.length+1)*4<=_;omega) aa ?_;intro rn w H;refine wk ?_;refine⟨sB,(p+n,rn,out++[c],r7,ds,rs'),sB,⟨by dsimp only;omega,by dsimp only;exact rF,?_,by dsimp only;rw[ak,bT];omega,hR,ti,H.sx⟩,by dsimp only;omega⟩;intro r hr;dsimp only at hr |-;rw[hX]at hr;cases hr;rw[hu2];exact oy out [c] _
   rw[h10]at hu2;refine wk ?_;refine H.us (J6 H.data e hq aa (λr hr=>(hr1 r hr).2.1)) ?_;intro w H;rw[ht];cases rs' with
   | nil =>rw[show eZ []=[]from rfl,Ze]at hu2;rw[hu2];simp only[aK]at qc;refine wk ?_;exact⟨V,⟨none,0,0⟩,aS _,H.sx,rfl⟩
   | cons x dn =>
    obtain⟨k,m⟩:=x;obtain⟨hk3,l7,hm2⟩:=ti (k,m) ah;dsimp only at hk3 l7 hm2;obtain⟨m,rfl⟩:∃j,m=j+1:=⟨m-1,aa⟩
    rw[XS,Zd]at hu2;have hat:=hR.at_ ah;have M5:Plain r7.a:=by rw[hat];rfl
    have j8:bW r7.a=bW rc.a:=by rw[hat];rfl
    have tg:bM r7.a=bM rc.a+ds.length*2:=by rw[hat];rfl
    simp only[aq]at qc ael;have S1:=H.cV (i:=2) rfl (λ_=>rfl) ai;obtain⟨_,u1,_⟩:=S1.fF (g:=λr:bV=>iv r.1) (g':=λr:bV=>iv r.2) (λ_=>rfl) (i:=ds.length) aa;have fL:∀j,(aX (ds++(k,j)::dn))[ds.length]'(by simp[aX])=eY (k,j):=λj=>by simp[aX]
    rw[fL,<-j8,<-tg]at u1;dsimp only[eY]at u1;have nt:k=0\/k=1\/k=2:=aa;rcases nt with rfl|rfl|rfl
    ·refine H.wn ?_;intro w bq H;refine wk ?_;refine Rel.KF (s:=r6) (x:=⟨some ⟨bq,0,none⟩,1,1⟩) (xs:=out.flatMap fC) (ys:=[rv 10]) al rfl rfl rfl rfl rfl ai H (H.sV).cells rfl (by simp[Value.oneCell']) (by show(r6.len+1)*4<=_;omega) (by dsimp only;omega) ?_;intro rn w H _;rw[show out.flatMap fC++[rv 10]=(out++[10]).flatMap fC by rw[cw];rfl]at H;have S2:=H.cV (i:=3) rfl (λ_=>rfl) ai;obtain⟨_,_,u2⟩:=S2.fF (g:=λr:bV=>iv r.1) (g':=λr:bV=>iv r.2) (λ_=>rfl) (i:=ds.length) aa;rw[fL,<-j8,<-tg]at u2;dsimp only[eY]at u2;refine wk ?_;rw[show(((m+1:Nat):Int)-1)=((m:Nat):Int)by omega];refine Rel.vc (i:=3) H rfl (ds.length*2+1) aa j8 (by show bM r7.a+0*2+1=_;omega) ?_;intro w H;simp only[fa,bH]at H;rw[Pm]at H;have S3:=H.cV (i:=3) rfl (λ_=>rfl) ai;have Ul:(aX (ds++(0,m)::dn)).length=ds.length+(dn.length+1):=by simp[aX]
     obtain⟨_,_,u3⟩:=S3.fF (g:=λr:bV=>iv r.1) (g':=λr:bV=>iv r.2) (λ_=>rfl) (i:=ds.length) aa;rw[fL,<-j8,<-tg]at u3;dsimp only[eY]at u3;by_cases DW:m=0
     ·subst DW;refine wk ?_;refine⟨sB,(p+n,rn,out++[10],⟨bo r7.a 1 r7.cap 2,r7.len-1,r7.cap-1⟩,ds++[(0,0)],dn),sB,⟨by dsimp only;omega,by dsimp only;exact rF,?_,by dsimp only;rw[ak];simp only[aq,aK];omega,⟨by dsimp only;omega,by dsimp only;omega,λhne=>?_⟩,λr hr=>ti r (by simp[hr]),?_⟩,by dsimp only;omega⟩
      ·intro r hr;dsimp only at hr |-;rw[hX]at hr;cases hr;rw[hu2,Pl];exact oy out [10] _
      ·have hpos:=iC.2 hne;dsimp only at hpos |-;rw[PG M5 aa,ak,bT,j8,tg,show bM rc.a+ds.length*2+1*2=bM rc.a+(ds.length+1)*2 by omega]
      dsimp only;rw[bj];exact H.sx
     refine wk ?_;refine⟨sB,(p+n,rn,out++[10],r7,ds,(0,m)::dn),sB,⟨by dsimp only;omega,by dsimp only;exact rF,?_,by dsimp only;rw[ak];simp only[aq,aK];omega,⟨by simp only[aq];omega,by dsimp only;omega,λ_=>hat⟩,λr hr=>?_,H.sx⟩,by dsimp only;omega⟩
     ·intro r hr;dsimp only at hr |-;rw[hX]at hr;cases hr;rw[hu2];exact oy out [10] _
     rcases bP.1 hr with rfl|hr
     ·exact⟨hk3,by dsimp only;omega,by dsimp only;omega⟩
     exact ti r (by simp[hr])
    ·refine H.wn ?_;intro w bq H;refine wk ?_;refine Rel.KF (s:=r6) (x:=⟨some ⟨bq,0,none⟩,2,2⟩) (xs:=out.flatMap fC) (ys:=[rv 13,rv 10]) al rfl rfl rfl rfl rfl ai H (H.sV).cells rfl (by simp[Value.oneCell']) (by show(r6.len+2)*4<=_;omega) (by dsimp only;omega) ?_;intro rn w H _;rw[show out.flatMap fC++[rv 13,rv 10]=(out++[13,10]).flatMap fC by rw[cw];rfl]at H;have S2:=H.cV (i:=3) rfl (λ_=>rfl) ai;obtain⟨_,_,u2⟩:=S2.fF (g:=λr:bV=>iv r.1) (g':=λr:bV=>iv r.2) (λ_=>rfl) (i:=ds.length) aa;rw[fL,<-j8,<-tg]at u2;dsimp only[eY]at u2;refine wk ?_;rw[show(((m+1:Nat):Int)-1)=((m:Nat):Int)by omega];refine Rel.vc (i:=3) H rfl (ds.length*2+1) aa j8 (by show bM r7.a+0*2+1=_;omega) ?_;intro w H;simp only[fa,bH]at H;rw[Pm]at H;have S3:=H.cV (i:=3) rfl (λ_=>rfl) ai;have Ul:(aX (ds++(1,m)::dn)).length=ds.length+(dn.length+1):=by simp[aX]
     obtain⟨_,_,u3⟩:=S3.fF (g:=λr:bV=>iv r.1) (g':=λr:bV=>iv r.2) (λ_=>rfl) (i:=ds.length) aa;rw[fL,<-j8,<-tg]at u3;dsimp only[eY]at u3;by_cases DW:m=0
     ·subst DW;refine wk ?_;refine⟨sB,(p+n,rn,out++[13,10],⟨bo r7.a 1 r7.cap 2,r7.len-1,r7.cap-1⟩,ds++[(1,0)],dn),sB,⟨by dsimp only;omega,by dsimp only;exact rF,?_,by dsimp only;rw[ak];simp only[aq,aK];omega,⟨by dsimp only;omega,by dsimp only;omega,λhne=>?_⟩,λr hr=>ti r (by simp[hr]),?_⟩,by dsimp only;omega⟩
      ·intro r hr;dsimp only at hr |-;rw[hX]at hr;cases hr;rw[hu2,Pl];exact oy out [13,10] _
      ·have hpos:=iC.2 hne;dsimp only at hpos |-;rw[PG M5 aa,ak,bT,j8,tg,show bM rc.a+ds.length*2+1*2=bM rc.a+(ds.length+1)*2 by omega]
      dsimp only;rw[bj];exact H.sx
     refine wk ?_;refine⟨sB,(p+n,rn,out++[13,10],r7,ds,(1,m)::dn),sB,⟨by dsimp only;omega,by dsimp only;exact rF,?_,by dsimp only;rw[ak];simp only[aq,aK];omega,⟨by simp only[aq];omega,by dsimp only;omega,λ_=>hat⟩,λr hr=>?_,H.sx⟩,by dsimp only;omega⟩
     ·intro r hr;dsimp only at hr |-;rw[hX]at hr;cases hr;rw[hu2];exact oy out [13,10] _
     rcases bP.1 hr with rfl|hr
     ·exact⟨hk3,by dsimp only;omega,by dsimp only;omega⟩
     exact ti r (by simp[hr])
    refine H.wn ?_;intro w bq H;refine wk ?_;refine Rel.KF (s:=r6) (x:=⟨some ⟨bq,0,none⟩,1,1⟩) (xs:=out.flatMap fC) (ys:=[rv 13]) al rfl rfl rfl rfl rfl ai H (H.sV).cells rfl (by simp[Value.oneCell']) (by show(r6.len+1)*4<=_;omega) (by dsimp only;omega) ?_;intro rn w H _;rw[show out.flatMap fC++[rv 13]=(out++[13]).flatMap fC by rw[cw];rfl]at H;have S2:=H.cV (i:=3) rfl (λ_=>rfl) ai;obtain⟨_,_,u2⟩:=S2.fF (g:=λr:bV=>iv r.1) (g':=λr:bV=>iv r.2) (λ_=>rfl) (i:=ds.length) aa;rw[fL,<-j8,<-tg]at u2;dsimp only[eY]at u2;refine wk ?_;rw[show(((m+1:Nat):Int)-1)=((m:Nat):Int)by omega];refine Rel.vc (i:=3) H rfl (ds.length*2+1) aa j8 (by show bM r7.a+0*2+1=_;omega) ?_;intro w H;simp only[fa,bH]at H;rw[Pm]at H;have S3:=H.cV (i:=3) rfl (λ_=>rfl) ai;have Ul:(aX (ds++(2,m)::dn)).length=ds.length+(dn.length+1):=by simp[aX]
    obtain⟨_,_,u3⟩:=S3.fF (g:=λr:bV=>iv r.1) (g':=λr:bV=>iv r.2) (λ_=>rfl) (i:=ds.length) aa;rw[fL,<-j8,<-tg]at u3;dsimp only[eY]at u3;by_cases DW:m=0
    ·subst DW;refine wk ?_;refine⟨sB,(p+n,rn,out++[13],⟨bo r7.a 1 r7.cap 2,r7.len-1,r7.cap-1⟩,ds++[(2,0)],dn),sB,⟨by dsimp only;omega,by dsimp only;exact rF,?_,by dsimp only;rw[ak];simp only[aq,aK];omega,⟨by dsimp only;omega,by dsimp only;omega,λhne=>?_⟩,λr hr=>ti r (by simp[hr]),?_⟩,by dsimp only;omega⟩
     ·intro r hr;dsimp only at hr |-;rw[hX]at hr;cases hr;rw[hu2,Pl];exact oy out [13] _
     ·have hpos:=iC.2 hne;dsimp only at hpos |-;rw[PG M5 aa,ak,bT,j8,tg,show bM rc.a+ds.length*2+1*2=bM rc.a+(ds.length+1)*2 by omega]
     dsimp only;rw[bj];exact H.sx
    refine wk ?_;refine⟨sB,(p+n,rn,out++[13],r7,ds,(2,m)::dn),sB,⟨by dsimp only;omega,by dsimp only;exact rF,?_,by dsimp only;rw[ak];simp only[aq,aK];omega,⟨by simp only[aq];omega,by dsimp only;omega,λ_=>hat⟩,λr hr=>?_,H.sx⟩,by dsimp only;omega⟩
    ·intro r hr;dsimp only at hr |-;rw[hX]at hr;cases hr;rw[hu2];exact oy out [13] _
    rcases bP.1 hr with rfl|hr
    ·exact⟨hk3,by dsimp only;omega,by dsimp only;omega⟩
    exact ti r (by simp[hr])
  have eC:¬p<t.length:=hlt;have hu2:=hu [] (by rw[fc aa];rfl);cases rs' with
  | nil =>rw[show iU [] (eZ [])=some []from rfl]at hu2;simp only[Option.map_some,aZ]at hu2;rw[hu2];simp only[aK]at qc;have H0:Rel W V [.row r6 21 1 (out.flatMap fC)] V w:=H.sx;clear H;obtain⟨V3,aw,H,hr⟩:=Rel.aJ H0;clear H0;refine wk ?_;exact⟨V3,r6,aw,H.sx,by rw[bw aa],hr⟩
  | cons x dn =>
   obtain⟨k,m⟩:=x;obtain⟨hk3,l7,hm2⟩:=ti (k,m) ah;dsimp only at hk3 l7 hm2;obtain⟨m,rfl⟩:∃j,m=j+1:=⟨m-1,aa⟩
   rw[XS,show iU [] (k::eZ ((k,m)::dn))=none from rfl,Option.map_none]at hu2;rw[hu2];simp only[aq]at qc;refine wk ?_;exact⟨V,r6,aS _,H.sx,by rw[bA aa]⟩
theorem QO(h:x<2147483648):cI .and .i64 (x:Int) 1023=((x%1024:Nat):Int):=by have e:cI .and .i64 (x:Int) 1023=IntKind.i64.wrap (((BitVec.ofInt 64 (x:Int))&&&(BitVec.ofInt 64 (1023:Int))).toNat:Int):=rfl;rw[e,BitVec.toNat_and,tt (w:=64) aa,show(BitVec.ofInt 64 (1023:Int)).toNat=2^10-1 by decide,Nat.and_two_pow_sub_one_eq_mod];exact ZR aa
theorem X8:((n:Int)/2^min (gR 10) IntKind.i64.bits)=((n/1024:Nat):Int):=rfl
structure Z4(W V:ad)(o:fV)(v:aj)(w':ad):Prop where
 ex:∃(V':ad) (r:Sl),Sub V V'/\Rel W V [] V' w'/\(match o with
  | none=>v=.tuple #[.slice none 0 0,.bool false]
  | some o=>v=.tuple #[r.v,.bool true]/\aF V' r o)
section
variable{w0 V0 V w:ad}{own:cx}
theorem Ag{b:Nat}{r:Sl}{xs:ab}(H:Rel w0 V0 (.row r 5 1 (xs.flatMap aI)::.ay b [r.v] 22::own) V w)(hl:xs.length<=1000000000){sp:Sl}{hs:List Sl}{ll:bf}(h1:aA du V sp hs)(h2:Pw lW V hs ll)(h3:ll.length<=1000000)(h4:ll.flatten.length<=1000000) :
  aB 206 [sp.v,.pointer (some ⟨b,0,none⟩)] w λ_ w'=>∃r':Sl,Rel w0 V0 (.row r' 5 1 ((xs++ll.flatten).flatMap aI)::.ay b [r'.v] 22::own) V w':=by
 refine eV Tryz.func206 7 [0,1] ?_;refine wk ?_;refine eJ (id:=0) al mixed [2] [0,1,2,3,4] av ?_;intro w bG;replace H:=Rel.ext H bG.ext;refine wk ?_;refine(C0 H.data h1 h2 h3 aa).use ?_;rintro v w⟨r2,rfl,K⟩;replace H:=H.cq K;refine wk ?_;refine Rel.eB (s:=r) (x:=r2) (xs:=xs) (ys:=ll.flatten) H (i:=0) rfl aa ?_;intro rn w H;simp only[bH]at H;refine H.wg ?_;intro w H;exact⟨rn,H⟩
end
theorem P6(l:au)(c:Nat):List.flatMap bR (l++[c])=List.flatMap bR l++bR c:=by rw[cw,Fg]
theorem J8(big:Bool)(l:au)(c:Nat):((l++[c]).flatMap gE).flatMap (dD big)=(l.flatMap gE).flatMap (dD big)++(gE c).flatMap (dD big):=by rw[cw,Fg,cw]
theorem J9(big:Bool)(cs:au)(k:Nat):(((cs.take k).flatMap gE).flatMap (dD big)).length<=4*k:=by
 have:∀l:au,((l.flatMap gE).flatMap (dD big)).length<=4*l.length:=λl=>by
  induction l with
  | nil=>exact aQ _
  | cons c l ih =>
   have hu:((gE c).flatMap (dD big)).length<=4:=by unfold gE;split<;>simp[vg]
   rw[bD,cw,ak,aq];omega
 have:=this (cs.take k);rw[bg]at this;omega
theorem Kb(cs:au)(k:Nat):((cs.take k).flatMap bR).length<=4*k:=by
 have:∀l:au,(l.flatMap bR).length<=4*l.length:=λl=>by
  induction l with
  | nil=>exact aQ _
  | cons c l ih =>have:=nP c;rw[bD,ak,aq,vf];omega
 have:=this (cs.take k);rw[bg]at this;omega
theorem acI(hV:Sub V W){s:Sl}{cs:au}(hs:aA fC V s cs)(hl:cs.length<=10000000)(hc:∀c∈cs,eg c){e:Nat}(he:e<5):aB 128 [s.v,iv (e:Int)] W (Z4 W V (mD e cs)):=by
 have H:=aG hV;have hlen:=hs.len;have Mu:e=0\/e=1\/e=2\/e=3\/e=4:=aa;refine eV Tryz.func128 87 [0,1,4,5,6,7,8,10,11,15,16,20,28,29,30,31,41,48,56,66] ?_;rcases Mu with rfl|rfl|rfl|rfl|rfl
 ·refine H.wn ?_;intro w b6 H;replace H:=H.br 5 1;have H0:Rel W V [.row ⟨none,0,0⟩ 5 1 (([]:ab).flatMap aI),.ay b6 [(⟨none,0,0⟩:Sl).v] 22] V w:=H;clear H;have H:=H0;clear H0;rw[show mD 0 cs=some ([]++cs.flatMap bR)from rfl];refine wk ?_;refine aP (S:=Nat×Sl) al [0,1,6,7,8,15,16,20,28,29] (λk=>[(30,iv k.1)]) (λk w'=>k.1<=cs.length/\Rel W V [.row k.2 5 1 (([]++(cs.take k.1).flatMap bR).flatMap aI),.ay b6 [k.2.v] 22] V w') (λk _=>cs.length-k.1) (0,⟨none,0,0⟩) ?_;conv=>whnf
  refine⟨sB,⟨aa,by rw[kM,eL,aZ];exact H⟩,?_⟩;clear H;rintro⟨k,r⟩w⟨hk,H⟩;dsimp only at hk H |-;have H6:=Kb cs k;by_cases hlt:k<cs.length
  ·obtain⟨p0,c0⟩:=hs.aR (g:=rv) (λ_=>rfl) hlt;refine wk ?_;refine(CK (c:=cs[k]) H (hc _ (bS hlt)) (by rw[ak];simp only[aK];omega)).use ?_;clear H;rintro v w⟨rn,rfl,H⟩;refine H.wg ?_;intro w H;refine⟨sB,(k+1,rn),sB,⟨by dsimp only;omega,?_⟩,by dsimp only;omega⟩;dsimp only;rw[bK hlt,P6,<-bj];exact H.sx
  rw[bJ aa]at H;obtain⟨V2,hV2,H,hr⟩:=Rel.aJ H;refine wk ?_;exact⟨V2,r,hV2,H.sx,rfl,hr⟩
 ·refine H.wn ?_;intro w b6 H;replace H:=H.br 5 1;refine wk ?_;refine(CK (c:=65279) (xs:=[]) H ai ah).use ?_;clear H;rintro v w⟨rm,rfl,H⟩;rw[aL,show bR 65279=oz by decide]at H;rw[show mD 1 cs=some (oz++cs.flatMap bR)from rfl];refine H.wg ?_;intro w H;refine aP (S:=Nat×Sl) al [0,1,6,7,8,15,16,20,28,29] (λk=>[(30,iv k.1)]) (λk w'=>k.1<=cs.length/\Rel W V [.row k.2 5 1 ((oz++(cs.take k.1).flatMap bR).flatMap aI),.ay b6 [k.2.v] 22] V w') (λk _=>cs.length-k.1) (0,rm) ?_;conv=>whnf
  refine⟨sB,⟨aa,by rw[kM,eL,aZ];exact H⟩,?_⟩;clear H;rintro⟨k,r⟩w⟨hk,H⟩;dsimp only at hk H |-;have H6:=Kb cs k;by_cases hlt:k<cs.length
  ·obtain⟨p0,c0⟩:=hs.aR (g:=rv) (λ_=>rfl) hlt;refine wk ?_;refine(CK (c:=cs[k]) H (hc _ (bS hlt)) (by rw[ak];simp only[aq,aK];omega)).use ?_;clear H;rintro v w⟨rn,rfl,H⟩;refine H.wg ?_;intro w H;refine⟨sB,(k+1,rn),sB,⟨by dsimp only;omega,?_⟩,by dsimp only;omega⟩;dsimp only;rw[bK hlt,P6,<-bj];exact H.sx
  rw[bJ aa]at H;obtain⟨V2,hV2,H,hr⟩:=Rel.aJ H;refine wk ?_;exact⟨V2,r,hV2,H.sx,rfl,hr⟩
 ·have em:dD true 65279=[254,255]:=ai;rw[show mD 2 cs=some ([254,255]++(cs.flatMap gE).flatMap (dD true))from rfl];refine H.wn ?_;intro w b6 H;replace H:=H.br 5 1;refine wk ?_;refine(w8 H.data (u:=65279) ai true).use ?_;rintro v w⟨V1,r1,hV1,K,rfl,hr1⟩;replace H:=Rel.call H K;simp only[aL]at H;refine H.wn ?_;intro w bs H;obtain⟨V2,hV2,H,l6⟩:=H.cU;have fu:aA du V2 ⟨some ⟨bs,0,none⟩,1,1⟩ [r1]:=⟨rfl,aQ _,l6.cells⟩
  refine wk ?_;refine(Ag (xs:=[]) H ah fu (Pw.nil.snoc (hr1.up hV2)) (ll:=[dD true 65279]) ah (by simp[vg])).use ?_;clear H;rintro v w⟨rm,H⟩;rw[aL,show[dD true 65279].flatten=[254,255]by rw[em];rfl]at H;have xT:=hV1.trans hV2;refine wk ?_;refine aP (S:=Nat×Sl) al [0,1,6,7,8,15,16,20,28,29] (λk=>[(30,iv k.1)]) (λk w'=>k.1<=cs.length/\∃V3,Sub V V3/\Rel W V [.row k.2 5 1 (([254,255]++((cs.take k.1).flatMap gE).flatMap (dD true)).flatMap aI),.ay b6 [k.2.v] 22] V3 w') (λk _=>cs.length-k.1) (0,rm) ?_;conv=>whnf
  refine⟨sB,⟨aa,V2,xT,by rw[kM,eL,eL,aZ];exact H⟩,?_⟩;clear H;rintro⟨k,r⟩w⟨hk,V3,aw,H⟩;dsimp only at hk H |-;have H6:=J9 true cs k;by_cases hlt:k<cs.length
  ·obtain⟨p0,c0⟩:=(hs.up aw).aR (g:=rv) (λ_=>rfl) hlt;have gZ:=hc _ (bS hlt);have hcl:=uN gZ;have hxl:([254,255]++((cs.take k).flatMap gE).flatMap (dD true)).length<=1000000000:=by rw[ak];simp only[aq,aK];omega
   obtain⟨c,xZ⟩:∃c,c=cs[k]:=⟨_,rfl⟩
   rw[<-xZ]at c0 gZ hcl;obtain⟨z,hz⟩:∃z:Int,z=(c:Int):=⟨_,rfl⟩
   change _=some (bO .i32 (c:Int))at c0;rw[<-hz]at c0;by_cases h16:c<65536
   ·refine wk ?_;rw[hz];refine(w8 H.data h16 true).use ?_;rintro v w⟨V4,r4,ar,K,rfl,hr4⟩;replace H:=Rel.call H K;simp only[aL]at H;refine H.wn ?_;intro w xq H;obtain⟨V5,aN,H,xY⟩:=H.cU;have yC:aA du V5 ⟨some ⟨xq,0,none⟩,1,1⟩ [r4]:=⟨rfl,aQ _,xY.cells⟩
    refine wk ?_;refine(Ag H hxl yC (Pw.nil.snoc (hr4.up aN)) (ll:=[dD true c]) ah (by simp[vg])).use ?_;clear H;rintro v w⟨rn,H⟩;have xE:[dD true c].flatten=(gE c).flatMap (dD true):=by unfold gE;rw[ag h16];rfl
    rw[xE,bj,<-J8,xZ,<-bK hlt]at H;refine wk ?_;exact⟨sB,(k+1,rn),sB,⟨by dsimp only;omega,V5,(aw.trans ar).trans aN,H.sx⟩,by dsimp only;omega⟩
   obtain⟨m,hm⟩:∃m,m=c-65536:=⟨_,rfl⟩
   refine wk ?_;rw[show z-65536=(m:Int)by omega];refine wk ?_;rw[X8];refine wk ?_;rw[show(55296:Int)+((m/1024:Nat):Int)=((55296+m/1024:Nat):Int)by omega];refine(w8 H.data aa true).use ?_;rintro v w⟨V4,r4,ar,K,rfl,hr4⟩;replace H:=Rel.call H K;simp only[aL]at H;refine wk ?_;rw[QO aa];refine wk ?_;rw[show(56320:Int)+((m%1024:Nat):Int)=((56320+m%1024:Nat):Int)by omega];refine(w8 H.data aa true).use ?_;rintro v w⟨V5,r5,aN,K,rfl,jU⟩;replace H:=Rel.call H K;simp only[aL]at H;refine H.wn ?_;intro w xq H;obtain⟨V6,bC,H,xY⟩:=H.cU;have yC:aA du V6 ⟨some ⟨xq,0,none⟩,2,2⟩ [r4,r5]:=⟨rfl,aQ _,xY.cells⟩
   refine wk ?_;refine(Ag H hxl yC ((Pw.nil.snoc ((hr4.up aN).up bC)).snoc (jU.up bC)) (ll:=[dD true (55296+m/1024),dD true (56320+m%1024)]) ah (by simp[vg])).use ?_;clear H;rintro v w⟨rn,H⟩;have xE:[dD true (55296+m/1024),dD true (56320+m%1024)].flatten=(gE c).flatMap (dD true):=by unfold gE;rw[ae h16,<-hm];rfl
   rw[xE,bj,<-J8,xZ,<-bK hlt]at H;refine wk ?_;exact⟨sB,(k+1,rn),sB,⟨by dsimp only;omega,V6,((aw.trans ar).trans aN).trans bC,H.sx⟩,by dsimp only;omega⟩
  rw[bJ aa]at H;obtain⟨V4,ar,H,hr⟩:=Rel.aJ H;refine wk ?_;exact⟨V4,r,aw.trans ar,H.sx,rfl,hr⟩
 ·have em:dD false 65279=[255,254]:=ai;rw[show mD 3 cs=some ([255,254]++(cs.flatMap gE).flatMap (dD false))from rfl];refine H.wn ?_;intro w b6 H;replace H:=H.br 5 1;refine wk ?_;refine(w8 H.data (u:=65279) ai false).use ?_;rintro v w⟨V1,r1,hV1,K,rfl,hr1⟩;replace H:=Rel.call H K;simp only[aL]at H;refine H.wn ?_;intro w bs H;obtain⟨V2,hV2,H,l6⟩:=H.cU;have fu:aA du V2 ⟨some ⟨bs,0,none⟩,1,1⟩ [r1]:=⟨rfl,aQ _,l6.cells⟩
  refine wk ?_;refine(Ag (xs:=[]) H ah fu (Pw.nil.snoc (hr1.up hV2)) (ll:=[dD false 65279]) ah (by simp[vg])).use ?_;clear H;rintro v w⟨rm,H⟩;rw[aL,show[dD false 65279].flatten=[255,254]by rw[em];rfl]at H;have xT:=hV1.trans hV2;refine wk ?_;refine aP (S:=Nat×Sl) al [0,1,6,7,8,15,16,20,28,29] (λk=>[(30,iv k.1)]) (λk w'=>k.1<=cs.length/\∃V3,Sub V V3/\Rel W V [.row k.2 5 1 (([255,254]++((cs.take k.1).flatMap gE).flatMap (dD false)).flatMap aI),.ay b6 [k.2.v] 22] V3 w') (λk _=>cs.length-k.1) (0,rm) ?_;conv=>whnf
  refine⟨sB,⟨aa,V2,xT,by rw[kM,eL,eL,aZ];exact H⟩,?_⟩;clear H;rintro⟨k,r⟩w⟨hk,V3,aw,H⟩;dsimp only at hk H |-;have H6:=J9 false cs k;by_cases hlt:k<cs.length
  ·obtain⟨p0,c0⟩:=(hs.up aw).aR (g:=rv) (λ_=>rfl) hlt;have gZ:=hc _ (bS hlt);have hcl:=uN gZ;have hxl:([255,254]++((cs.take k).flatMap gE).flatMap (dD false)).length<=1000000000:=by rw[ak];simp only[aq,aK];omega
   obtain⟨c,xZ⟩:∃c,c=cs[k]:=⟨_,rfl⟩
   rw[<-xZ]at c0 gZ hcl;obtain⟨z,hz⟩:∃z:Int,z=(c:Int):=⟨_,rfl⟩
   change _=some (bO .i32 (c:Int))at c0;rw[<-hz]at c0;by_cases h16:c<65536
   ·refine wk ?_;rw[hz];refine(w8 H.data h16 false).use ?_;rintro v w⟨V4,r4,ar,K,rfl,hr4⟩;replace H:=Rel.call H K;simp only[aL]at H;refine H.wn ?_;intro w xq H;obtain⟨V5,aN,H,xY⟩:=H.cU;have yC:aA du V5 ⟨some ⟨xq,0,none⟩,1,1⟩ [r4]:=⟨rfl,aQ _,xY.cells⟩
    refine wk ?_;refine(Ag H hxl yC (Pw.nil.snoc (hr4.up aN)) (ll:=[dD false c]) ah (by simp[vg])).use ?_;clear H;rintro v w⟨rn,H⟩;have xE:[dD false c].flatten=(gE c).flatMap (dD false):=by unfold gE;rw[ag h16];rfl
    rw[xE,bj,<-J8,xZ,<-bK hlt]at H;refine wk ?_;exact⟨sB,(k+1,rn),sB,⟨by dsimp only;omega,V5,(aw.trans ar).trans aN,H.sx⟩,by dsimp only;omega⟩
   obtain⟨m,hm⟩:∃m,m=c-65536:=⟨_,rfl⟩
   refine wk ?_;rw[show z-65536=(m:Int)by omega];refine wk ?_;rw[X8];refine wk ?_;rw[show(55296:Int)+((m/1024:Nat):Int)=((55296+m/1024:Nat):Int)by omega];refine(w8 H.data aa false).use ?_;rintro v w⟨V4,r4,ar,K,rfl,hr4⟩;replace H:=Rel.call H K;simp only[aL]at H;refine wk ?_;rw[QO aa];refine wk ?_;rw[show(56320:Int)+((m%1024:Nat):Int)=((56320+m%1024:Nat):Int)by omega];refine(w8 H.data aa false).use ?_;rintro v w⟨V5,r5,aN,K,rfl,jU⟩;replace H:=Rel.call H K;simp only[aL]at H;refine H.wn ?_;intro w xq H;obtain⟨V6,bC,H,xY⟩:=H.cU;have yC:aA du V6 ⟨some ⟨xq,0,none⟩,2,2⟩ [r4,r5]:=⟨rfl,aQ _,xY.cells⟩
   refine wk ?_;refine(Ag H hxl yC ((Pw.nil.snoc ((hr4.up aN).up bC)).snoc (jU.up bC)) (ll:=[dD false (55296+m/1024),dD false (56320+m%1024)]) ah (by simp[vg])).use ?_;clear H;rintro v w⟨rn,H⟩;have xE:[dD false (55296+m/1024),dD false (56320+m%1024)].flatten=(gE c).flatMap (dD false):=by unfold gE;rw[ae h16,<-hm];rfl
   rw[xE,bj,<-J8,xZ,<-bK hlt]at H;refine wk ?_;exact⟨sB,(k+1,rn),sB,⟨by dsimp only;omega,V6,((aw.trans ar).trans aN).trans bC,H.sx⟩,by dsimp only;omega⟩
  rw[bJ aa]at H;obtain⟨V4,ar,H,hr⟩:=Rel.aJ H;refine wk ?_;exact⟨V4,r,aw.trans ar,H.sx,rfl,hr⟩
 rw[show mD 4 cs=if ∀c∈cs,c<256 then some (cs.map aD)else none from rfl];refine H.wn ?_;intro w b6 H;replace H:=H.br 5 1;refine wk ?_;refine aP (S:=Nat×Sl) al [0,1,6,7,8,15,16,20,28,29] (λk=>[(30,iv k.1)]) (λk w'=>k.1<=cs.length/\(∀c∈cs.take k.1,c<256)/\Rel W V [.row k.2 5 1 (((cs.take k.1).map aD).flatMap aI),.ay b6 [k.2.v] 22] V w') (λk _=>cs.length-k.1) (0,⟨none,0,0⟩) ?_;conv=>whnf
 refine⟨sB,⟨aa,ah,H⟩,?_⟩;clear H;rintro⟨k,r⟩w⟨hk,ha,H⟩;dsimp only at hk ha H |-;by_cases hlt:k<cs.length
 ·obtain⟨p0,c0⟩:=hs.aR (g:=rv) (λ_=>rfl) hlt;have gZ:=uN (hc _ (bS hlt));have oo:((cs.take k).map aD).length=k:=by rw[aW,bg];omega
  by_cases amI:255<cs[k]
  ·rw[ae (λh=>by have:=h _ (bS hlt);omega)];refine wk ?_;exact⟨V,⟨none,0,0⟩,aS _,H.sx,rfl⟩
  refine H.wn ?_;intro w b54 H;rw[nS (show cs[k]<256 by omega)]at H;replace H:=H.cB (c':=aI (aD cs[k])) (by simp only[aI,bv,dB (show cs[k]<256 by omega)]);refine wk ?_;refine Rel.bF (f:=aI) (l:=(cs.take k).map aD) (x:=aD cs[k]) rfl (λ_=>rfl) (bc.1 rfl) H (by show(((cs.take k).map aD).length+1)*1<=_;omega) aa ?_;intro rn w H;refine H.wg ?_;intro w H;refine⟨sB,(k+1,rn),sB,⟨by dsimp only;omega,λc hc2=>?_,?_⟩,by dsimp only;omega⟩
  ·dsimp only at hc2;rw[bK hlt]at hc2;rcases cc.1 hc2 with h|h
   ·exact ha c h
   rw[List.mem_singleton.1 h];omega
  dsimp only;rw[bK hlt,dU];exact H.sx
 rw[bJ aa]at H ha;rw[ag ha];obtain⟨V2,hV2,H,hr⟩:=Rel.aJ H;refine wk ?_;exact⟨V2,r,hV2,H.sx,rfl,hr⟩
theorem YE{V':ad}(h:Lib.Utf8Tabs 0 1 V)(k:Sub V V'):Lib.Utf8Tabs 0 1 V' :=
 ⟨λc hc=>k.cell (h.1 c hc),λi hi=>⟨k.cell (h.2 i hi).1,k.cell (h.2 i hi).2⟩⟩
theorem Qa:∀ {l ks cs:au},iU l ks=some cs->(∀c∈cs,c∈l\/c=10\/c=13)/\cs.length<=2*l.length
 | [],[],cs,h=>by cases h;simp
 | [],_::_,cs,h=>by cases h
 | c::r,ks,cs,h=>by
  by_cases h10:c=10
  ·subst h10;cases ks with
   | nil=>rw[Ze]at h;cases h
   | cons k ks =>
    rw[Zd]at h;cases hr:iU r ks with
    | none=>rw[hr]at h;cases h
    | some ds =>
     rw[hr]at h;cases h;obtain⟨a1,a2⟩:=Qa hr;have he:(De k).length<=2/\∀c∈De k,c=10\/c=13:=by
      unfold De;split
      ·simp
      split<;>simp
     refine⟨λx hx=>?_,by rw[ak,aq];omega⟩;rcases cc.1 hx with hx|hx
     ·exact .inr (he.2 x hx)
     rcases a1 x hx with h|h
     ·exact .inl (by simp[h])
     exact .inr h
  rw[Zf h10]at h;cases hr:iU r ks with
  | none=>rw[hr]at h;cases h
  | some ds =>
   rw[hr]at h;cases h;obtain⟨a1,a2⟩:=Qa hr;refine⟨λx hx=>?_,by simp only[aq];omega⟩;rcases bP.1 hx with rfl|hx
   ·exact .inl ah
   rcases a1 x hx with h|h
   ·exact .inl (by simp[h])
   exact .inr h
theorem acv{cs:au}{o:ab}(h:mD e cs=some o):o.length<=4*cs.length+3:=by
 have h8:=Kb cs cs.length;have ht:=J9 true cs cs.length;have hf:=J9 false cs cs.length;rw[fA]at h8 ht hf;unfold mD at h;split at h
 ·cases h;omega
 split at h
 ·cases h;rw[ak];simp only[aq,aK];omega
 split at h
 ·cases h;rw[ak];simp only[aq,aK];omega
 split at h
 ·cases h;rw[ak];simp only[aq,aK];omega
 split at h
 ·cases h;rw[aW];omega
 cases h
theorem alp{rs:List eA}(h:lU b=some (e,rs))(l:au):(if fX e (eZ rs)=true then some l else iU l (eZ rs))=zG b rs l/\(fX e (eZ rs)=true->rs=[]):=by
 obtain⟨_,_,_,_,hiff⟩:=Y4 h;unfold zG;by_cases hb:b=[]
 ·rw[ag (hiff.1 hb),ag hb];refine⟨rfl,λ_=>?_⟩;unfold lU at h;rw[ag hb]at h;cases h;rfl
 rw[ae (λq=>hb (hiff.2 q)),ae hb];exact⟨rfl,λq=>absurd (hiff.2 q) hb⟩
theorem ado(hV:Sub V W)(hT:Lib.Utf8Tabs 0 1 V){h:VH}{v:ao}(hv:cb V h v)(hB:VB 1048576 v){s:Sl}{b:ab}(hs:aF V s b)(hl:b.length<=100000000):aB 56 [gw h,s.v] W (CC W V (q6 v (tQ v).isSome (oM v b))):=by
 have H:=aG hV;have hv0:=hv;have ek:=hv.kind;have hby:=hv.bytes;have hbl:=hB.bytes;obtain⟨k,n,bs,ss,pl⟩:=h;dsimp only at ek hby;change aB 56 [.agg [iv k,iv n,bs.v,ss.v,pl.v].toArray,s.v] W _;refine eV Tryz.func56 86 [0,1,2,4,5,6,7,8,9,10,11,12,13,14,19,23,38,48,58,82] ?_;refine H.wn ?_;intro w b2 H;refine H.wn ?_;intro w b5 H;refine wk ((Ct H.data hv0 hB).use ?_);rintro q w⟨rfl,K⟩;replace H:=H.bd K;refine H.wn ?_;intro w b6 H;by_cases hvf:(ct v).1=0;rotate_left
 ·have e:q6 v (tQ v).isSome (oM v b)=([],ct v):=by unfold q6;rw[ag hvf]
  rw[e];refine H.wg ?_;intro w H;refine eJ (id:=3) al mixed [] [0,1,2] av ?_;intro w bG;replace H:=Rel.ext H bG.ext;refine H.wg ?_;intro w H;exact⟨V,⟨none,0,0⟩,aS _,H.sx,rfl,aA.nil _ _⟩
 have hzz:=zO hvf;rw[hzz];by_cases tf:k=2;rotate_left
 ·have ff:tQ v=none:=by unfold tQ;rw[ae (by rw[<-ek];exact tf)]
  rw[ff];have e:q6 v (none:fV).isSome (oM v b)=([],13,0):=by unfold q6;rw[ae (λh=>h hvf)];rfl
  rw[e];refine H.wg ?_;intro w H;refine(Hc H.data 13 0).use ?_;rintro q w⟨rfl,K⟩;replace H:=H.bd K;refine H.wg ?_;intro w H;exact⟨V,⟨none,0,0⟩,aS _,H.sx,rfl,aA.nil _ _⟩
 have ff:tQ v=some v.bytes:=by unfold tQ;rw[ag (by rw[<-ek];exact tf)]
 have Nr:=al9 (ama hvf).1 (by rw[<-ek];exact tf);have fM:oM v b=match ve v.bytes b with
   | none=>none
   | some o=>open Classical in if o.length<=1000/\iH o=some (v,b)then some o else none:=by
  unfold oM;rw[ff];rfl
 rw[ff];have vt:oM v b=none->q6 v (some v.bytes).isSome (oM v b)=([],6, -2):=λh=>by rw[h];unfold q6;rw[ae (λh=>h hvf)];rfl
 refine H.wg ?_;intro w H;refine(Hc H.data 6 (-2)).use ?_;rintro q w⟨rfl,K⟩;replace H:=H.bd K;refine H.wn ?_;intro w b7 H;refine H.wg ?_;intro w H;refine(aiZ H.data hs aa).use ?_;rintro q w⟨V2,e,r,hV2,K,hres⟩;replace H:=H.bd K;cases hr:lU b with
 | none =>rw[hr]at hres;obtain rfl:=hres;have e:=vt (by rw[fM];unfold ve;rw[hr]);refine H.wn ?_;intro w b8 H;rw[e];refine H.wg ?_;intro w H;refine eJ (id:=9) al mixed [] [0,1,2] av ?_;intro w bG;replace H:=Rel.ext H bG.ext;refine H.wg ?_;intro w H;exact⟨V2,⟨none,0,0⟩,hV2,H.sx,rfl,aA.nil _ _⟩
 | some x =>
  obtain⟨e',rs⟩:=x;rw[hr]at hres;obtain⟨rfl,rfl,hrr⟩:=hres;obtain⟨h5,ho,qj,_,_⟩:=Y4 hr;have hos:=B9 ho;have hpos:=JL ho;refine H.wn ?_;intro w b8 H;refine H.wg ?_;intro w H;refine(Zx H.data (YE hT hV2) (hby.up hV2) aa).use ?_;rintro q w⟨rfl,K⟩;replace H:=H.bd K;cases hch:chars v.bytes with
  | none =>have e:=vt (by rw[fM];unfold ve;rw[hr];simp only;rw[hch]);rw[e];refine wk ?_;refine eJ (id:=9) al mixed [] [0,1,2] av ?_;intro w bG;replace H:=Rel.ext H bG.ext;refine H.wg ?_;intro w H;exact⟨V2,⟨none,0,0⟩,hV2,H.sx,rfl,aA.nil _ _⟩
  | some l =>
   obtain⟨hcl,hcf⟩:=GI.1 hch;have hll:l.length<=v.bytes.length:=by rw[<-hcf];exact Tb
   obtain⟨hcs,htr⟩:=alp hr l;refine wk ?_;refine(afj H.data (hby.up hV2) hbl hch hrr aa (λr hr=>⟨(hos.2 r hr).1,hpos r hr,by have:=(hos.2 r hr).2;omega⟩) htr).use ?_;rw[hcs];rintro q w⟨V3,r3,aw,K,hj⟩;replace H:=H.bd K;cases gZ:zG b rs l with
   | none =>rw[gZ]at hj;obtain rfl:=hj;have e:=vt (by rw[fM];unfold ve;rw[hr];simp only;rw[hch];simp only;rw[gZ]);rw[e];refine wk ?_;refine eJ (id:=12) al mixed [] [0,1,2] av ?_;intro w bG;replace H:=Rel.ext H bG.ext;refine H.wg ?_;intro w H;exact⟨V3,⟨none,0,0⟩,hV2.trans aw,H.sx,rfl,aA.nil _ _⟩
   | some cs =>
    rw[gZ]at hj;obtain⟨rfl,hr3⟩:=hj;have pd:(∀c∈cs,eg c)/\cs.length<=2*l.length:=by
     unfold zG at gZ;split at gZ
     ·cases gZ;exact⟨hcl,aa⟩
     obtain⟨a1,a2⟩:=Qa gZ;refine⟨λc hc=>?_,a2⟩;rcases a1 c hc with h|h|h
     ·exact hcl c h
     ·rw[h];unfold eg;omega
     rw[h];unfold eg;omega
    refine wk ?_;refine(acI H.data hr3 aa pd.1 h5).use ?_;rintro q w⟨V4,r4,ar,K,he⟩;replace H:=H.bd K;have hout:ve v.bytes b=mD e' cs:=by unfold ve;rw[hr];simp only;rw[hch];simp only;rw[gZ]
    cases hen:mD e' cs with
    | none =>rw[hen]at he;obtain rfl:=he;have e:=vt (by rw[fM,hout,hen]);rw[e];refine wk ?_;refine eJ (id:=15) al mixed [] [0,1,2] av ?_;intro w bG;replace H:=Rel.ext H bG.ext;refine H.wg ?_;intro w H;exact⟨V4,⟨none,0,0⟩,(hV2.trans aw).trans ar,H.sx,rfl,aA.nil _ _⟩
    | some O =>
     rw[hen]at he;obtain⟨rfl,hO⟩:=he;have TF:=acv hen;rw[hout,hen]at fM;simp only at fM;refine wk ?_;refine(YM H.data (YE hT ((hV2.trans aw).trans ar)) hO aa).use ?_;rintro q w⟨V5,hh,rr,aN,K,rfl,hvv,Ib⟩;replace H:=H.bd K;have nn:=((hV2.trans aw).trans ar).trans aN;by_cases Md:1000<O.length
     ·have et:cH (iH O) O.length=⟨zeroV,[],3, -1⟩:=by unfold cH;rw[ag Md]
      rw[et];have e:=vt (by rw[fM,ae];intro h;omega);refine H.wn ?_;intro w ud H;refine H.wn ?_;intro w nW H;rw[e];refine H.wg ?_;intro _ w H;refine eJ (id:=18) al mixed [] [0,1,2] av ?_;intro w bG;replace H:=Rel.ext H bG.ext;refine H.wg ?_;intro w H;exact⟨V5,⟨none,0,0⟩,nn,H.sx,rfl,aA.nil _ _⟩
     cases hto:iH O with
     | none =>
      rw[hto]at hvv Ib;have et:cH none O.length=⟨zeroV,[],21, -1⟩:=by unfold cH;rw[ae Md]
      rw[et];have e:=vt (by rw[fM,ae];intro h;rw[hto]at h;cases h.2);refine H.wn ?_;intro w ud H;refine H.wn ?_;intro w nW H;rw[e];refine H.wg ?_;intro _ w H;refine eJ (id:=18) al mixed [] [0,1,2] av ?_;intro w bG;replace H:=Rel.ext H bG.ext;refine H.wg ?_;intro w H;exact⟨V5,⟨none,0,0⟩,nn,H.sx,rfl,aA.nil _ _⟩
     | some y =>
      obtain⟨wv,wr⟩:=y;have et:cH (some (wv,wr)) O.length=⟨wv,wr,0,0⟩:=by unfold cH;rw[ae Md]
      rw[hto,et]at hvv Ib;rw[et];dsimp only at hvv Ib |-;obtain⟨dE,e2,T⟩:=P4 hto;have hwv:=T.val;have hcond:(O.length<=1000/\iH O=some (v,b))↔(wv.bytes=v.bytes/\wr=b):=by
       rw[hto];constructor
       ·rintro⟨_,h⟩;simp only[Option.some.injEq,Prod.mk.injEq]at h;exact⟨by rw[h.1],h.2⟩
       rintro⟨e1,e2⟩;refine⟨aa,?_⟩;rw[e2,Nr,<-e1,hwv]
      have Nt:=hvv.bytes;obtain⟨hk,hn,l6,Nn,H9⟩:=hh;dsimp only at Nt;refine H.wn ?_;intro w ud H;refine H.wn ?_;intro w nW H;refine H.wg ?_;intro _ w H;refine(G9 H.data Nt (hby.up nn)).use ?_;rintro q w⟨rfl,K⟩;replace H:=Rel.call H K;simp only[aL]at H;by_cases hc1:wv.bytes=v.bytes;rotate_left
      ·rw[bA hc1];have e:=vt (by rw[fM,ae];intro h;exact hc1 (hcond.1 h).1);rw[e];refine wk ?_;refine eJ (id:=18) al mixed [] [0,1,2] av ?_;intro w bG;replace H:=Rel.ext H bG.ext;refine H.wg ?_;intro w H;exact⟨V5,⟨none,0,0⟩,nn,H.sx,rfl,aA.nil _ _⟩
      rw[bw hc1];refine wk ((G9 H.data Ib (hs.up nn)).use ?_);rintro q w⟨rfl,K⟩;replace H:=Rel.call H K;simp only[aL]at H;by_cases hc2:wr=b;rotate_left
      ·rw[bA hc2];have e:=vt (by rw[fM,ae];intro h;exact hc2 (hcond.1 h).2);rw[e];refine wk ?_;refine eJ (id:=18) al mixed [] [0,1,2] av ?_;intro w bG;replace H:=Rel.ext H bG.ext;refine H.wg ?_;intro w H;exact⟨V5,⟨none,0,0⟩,nn,H.sx,rfl,aA.nil _ _⟩
      rw[bw hc2];have e:q6 v (some v.bytes).isSome (oM v b)=(O,0,0):=by rw[fM,ag (hcond.2 ⟨hc1,hc2⟩)];unfold q6;rw[ae (λh=>h hvf)];rfl
      rw[e];refine H.wg ?_;intro w H;exact⟨V5,r4,nn,H.sx,rfl,hO.up aN⟩
theorem agj(u:aj):Gk Tryz.prog 73 u "scriptorium/convert.from" 400 u:=λw=>by kernel_rfl
theorem adn(hV:Sub V W)(hT:pM V){z:Int}(hz:0<=z/\z<7){h:VH}{s:Sl}{l:ab}(hl:l.length<=1000)(hk:(kT l).1=z){t:TypeId}{x:aj}{f:FuncId}(h1:ug z.toNat=.iface t x)(h2:Gk Tryz.prog t x "scriptorium/convert.from" f x)
  (h3:∀ {W:ad},Sub V W->tF f [x,gw h,s.v].toArray W (CC W V (l,0,0))):aB 13 [EW z h s] W (CC W V (l,0,0)):=by
 have H:=aG hV;refine eV Tryz.func13 50 [0,1,2,3,4,5,6,7,8,9,17,30,46] ?_;refine H.wn ?_;intro w b1 H;refine H.wn ?_;intro w b3 H;refine wk (H.us (SY H.data hz) ?_);intro w H;rw[h1];refine wk ?_;refine⟨_,_,h2,(h3 H.data).use ?_⟩;rintro q w⟨V2,r,hV2,K,rfl,hr⟩;replace H:=H.bd K;dsimp only at hr |-;refine H.wn ?_;intro w b7 H;refine H.wg ?_;intro w H;refine(J3 H.data (hT.up hV2) hr aa).use ?_;have e:sX l=(kT l,0,0):=ae aa;rw[e];rintro q w⟨V3,h3,r3,aw,K,rfl,uJ,hr3⟩;replace H:=H.bd K;dsimp only;rw[hk];refine H.wn ?_;intro w b8 H;refine H.wn ?_;intro w b9 H;refine H.wg ?_;intro _ _ w H;exact⟨V3,r,hV2.trans aw,H.sx,rfl,hr.up aw⟩
theorem XZ(hV:Sub V W){k k':Int}{h h':VH}{v v':ao}{s s':Sl}{r r':ab}(hv:cb V h v)(hv':cb V h' v')(hB:VB 1099511627776 v)(hr:aF V s r)(hr':aF V s' r')(_:cY k)(hk':cY k') :
  aB 11 [EW k h s,EW k' h' s'] W λq w'=>∃b:Bool,q=.bool b/\(b=true↔(k,v,r)=(k',v',r'))/\Rel W V [] V w':=by
 have H:=aG hV;refine eV Tryz.func11 24 [0,1,2,3,4] ?_;refine H.wn ?_;intro w b2 H;refine H.wn ?_;intro w b3 H;by_cases nt:k=k';rotate_left
 ·refine wk ?_;exact⟨false,rfl,by simp[nt],H.sx⟩
 subst nt;refine wk ((ajN (SizeOf.sizeOf v+1) H.data (Nat.lt_succ_self _) hv hv' hB).use ?_);rintro q w⟨b,rfl,UI,K⟩;replace H:=H.bd K;cases b with
 | false =>refine wk ?_;exact⟨false,rfl,by simp[<-UI],H.sx⟩
 | true =>obtain rfl:=UI.1 rfl;refine wk (H.us (CR H.data hr hr') ?_);intro w H;refine wk ?_;exact⟨_,rfl,ah,H.sx⟩
theorem K3:kT [65,10]=(1,kC [65,10],[]):=by have h0:gg [65,10]=none:=av;have h1:fh [65,10]=none:=av;have h2:hC [65,10]=none:=av;have h3:gU [65,10]=none:=av;have h4:iG [65,10]=none:=av;have h5:iH [65,10]=some (kC [65,10],[]):=av;unfold kT;rw[h0,h1,h2,h3,h4,h5]
theorem cv0:kT [0]=(0,kC [0],[]):=by have h0:gg [0]=none:=av;have h1:fh [0]=none:=av;have h2:hC [0]=none:=av;have h3:gU [0]=none:=av;have h4:iG [0]=none:=av;have h5:iH [0]=none:=av;unfold kT;rw[h0,h1,h2,h3,h4,h5]
theorem acT(hV:Sub V W)(hT:pM V):aB 8 [] W λq w'=>q=.bool true/\∃V',Sub V V'/\Rel W V [] V' w':=by
 have H:=aG hV;refine eV Tryz.func8 65 [0,1,2,3,4,5,6] ?_;refine H.wn ?_;intro w b8 H;replace H:=H.cB (c':=([65,10]:ab).flatMap aI) rfl;refine wk ?_;refine Rel.C2 (b:=b8) (l:=[65,10]) rfl rfl H rfl ?_;intro V1 w hV1 hx H;refine wk ?_;refine(J3 H.data (hT.up hV1) hx ai).use ?_;rintro q w⟨V2,h,r,hV2,K,rfl,hv,hr⟩;replace H:=H.bd K;have e:sX [65,10]=((1,kC [65,10],[]),0,0):=by unfold sX;rw[ae ai,K3]
 rw[e]at hv hr |-;have hvb:=hv.bytes;dsimp only at hv hr hvb |-;refine H.wn ?_;intro w b1 H;refine H.wn ?_;intro w b2 H;refine H.wh ?_;intro _ w H;refine H.nA ?_;intro w nW H;replace H:=H.cB (c':=([0]:ab).flatMap aI) rfl;obtain⟨V3,aw,H,q9⟩:=H.cU;have fJ:aF V3 ⟨some ⟨nW,0,none⟩,1,1⟩ [0]:=⟨rfl,aQ _,q9.cells⟩
 have TK:=hV1.trans (hV2.trans aw);refine wk ?_;refine(J3 H.data (hT.up TK) fJ ai).use ?_;rintro q w⟨V4,h4,r4,ar,K,rfl,Ej,hr4⟩;replace H:=H.bd K;have e:sX [0]=((0,kC [0],[]),0,0):=by unfold sX;rw[ae ai,cv0]
 rw[e]at Ej hr4 |-;have US:=Ej.bytes;dsimp only at Ej hr4 US |-;refine H.wn ?_;intro w b3 H;refine H.wn ?_;intro w b4 H;refine H.wg ?_;intro _ w H;have gA:=aw.trans ar;have Mh:=TK.trans ar;obtain⟨hok,hB,hrl⟩:=Rz (l:=[65,10]) ai;rw[K3]at hok hB hrl;have fM:oM (kC [65,10]) []=some [65,10]:=Y5 ai av;refine(adn H.data (hT.up Mh) ai (l:=[65,10]) ai (by rw[K3]) rfl (agj _) λh9=>ahb h9 λh9=>?_).use ?_
 ·have h10:=ado h9 (hT.up Mh).tb (hv.up gA) hB (hr.up gA) ai;have e:q6 (kC [65,10]) (tQ (kC [65,10])).isSome (oM (kC [65,10]) [])=([65,10],0,0):=by rw[fM];unfold q6;rw[ZE ai];rfl
  exact e▸h10
 rintro q w⟨V5,r5,aN,K,rfl,jU⟩;replace H:=H.bd K;dsimp only at jU |-;refine H.wn ?_;intro w b6 H;refine H.wg ?_;intro w H;have adI:=gA.trans aN;refine⟨[65,10],hvb.len,iu _▸((hvb.up adI).up H.data).cells,?_⟩;refine H.wn ?_;intro w b57 H;replace H:=H.cB (c':=([0]:ab).flatMap aI) rfl;obtain⟨V6,bC,H,adR⟩:=H.cU;have aeU:aF V6 ⟨some ⟨b57,0,none⟩,1,1⟩ [0]:=⟨rfl,aQ _,adR.cells⟩
 refine wk (H.us (CR H.data (US.up (aN.trans bC)) aeU) ?_);intro w H;rw[bw rfl];refine wk ?_;refine⟨[65,10],jU.len,iu _▸((jU.up bC).up H.data).cells,?_⟩;refine wk ?_;exact(H.sx:Rel W V [] V6 w).less Mh (aN.trans bC)
theorem IW{k:Nat}{A:List cu}(h:(cs.take k).filter dA=A)(hA:∀f d,¬A <+: [(70,f),(68,d)]):mj cs=none:=by
 unfold mj;cases hp:tK cs with
 | none=>rfl
 | some x =>obtain⟨f,d⟩:=x;have h2:=Dg hp;rw[<-eW k cs,OJ,h]at h2;exact absurd ⟨_,h2⟩ (hA f d)
theorem Wr(h:(cs.filter dA).length≠2):mj cs=none:=by
 unfold mj;cases hp:tK cs with
 | none=>rfl
 | some x =>obtain⟨f,d⟩:=x;rw[Dg hp]at h;exact absurd rfl h
inductive Gg(cs:List cu)(k:Nat):Int->Int->Prop where
 | z:(cs.take k).filter dA=[]->Gg cs k (-1) (-1)
 | f {i:Nat} {f:ab}:(cs.take k).filter dA=[(70,f)]->cs[i]?=some (70,f)->Gg cs k (i:Int) (-1)
 | d {i j:Nat} {f d:ab}:(cs.take k).filter dA=[(70,f),(68,d)]->cs[i]?=some (70,f)->cs[j]?=some (68,d)->Gg cs k (i:Int) (j:Int)
theorem SX{k:Nat}(h:cs.take (k+1)=cs.take k++[c])(hf:dA c=true):(cs.take (k+1)).filter dA=(cs.take k).filter dA++[c]:=by rw[h,OJ,List.filter_cons_of_pos hf,List.filter_nil]
theorem LC{k:Nat}(h:cs.take (k+1)=cs.take k++[c])(hf:¬dA c=true):(cs.take (k+1)).filter dA=(cs.take k).filter dA:=by rw[h,OJ,List.filter_cons_of_neg hf,List.filter_nil,aZ]
theorem GK{x:UInt8}(h:c.1=x):c=(x,c.2):=by rw[<-h]
theorem akn(hV:Sub V W){s:Sl}{l:ab}(hs:aF V s l)(hl:l.length<=1000):aB 25 [s.v] W (Ae W V (gg l)):=by
 have H:=aG hV;have hlen:=hs.len;refine eV Tryz.func25 170 [0,2,3,4,5,6,7,8,9,10,11,12,13,14,15,16,24,29,37,43,51,57,91,128,153,160] ?_;refine H.wn ?_;intro w b2 H;refine H.wn ?_;intro w b5 H;refine H.wg ?_;intro w H;refine(akm H.data hs aa).use ?_;rintro v w⟨V2,r,hV2,K,hres⟩;replace H:=H.bd K;cases hc:kQ l with
 | none =>
  rw[hc]at hres;dsimp only at hres;subst hres;have e:gg l=none:=by rw[gg,oL,hc]
  rw[e];refine H.wg ?_;intro w H;exact⟨V2,aV,⟨none,0,0⟩,zeroV,[],hV2,Rel.less H.sx hV2 (by first|exact aS _|assumption),cG _,aA.nil _ _,rfl⟩
 | some cs =>
  rw[hc]at hres;obtain⟨rfl,ks,hks,uC⟩:=hres;have e:gg l=match mj cs with
   | none=>none
   | some x=>tI x:=by
   rw[gg,oL,hc]
   rfl
  have eN:mj cs=none->gg l=none:=λh=>by rw[e,h]
  have gk:=uC.len;have hrl:=hks.len;have hcl:(cs.length<=1000/\(cs.flatMap rX).length<=1000)/\∀c∈cs,CW c:=by
   unfold kQ at hc;split at hc
   ·obtain⟨h1,h2⟩:=CX _ _ _ (aQ _) hc;have h3:=ax bU h1;have h4:=Hg cs;simp only[ak,aU,aq,aK]at h3;exact⟨⟨aa,aa⟩,h2⟩
   cases hc
  refine wk ?_;refine aP (S:=Nat×Int×Int×Sl) al [0,2,5,6,7,13,14,15,16,24,91,128,153,160] (λk=>[(8,iv k.2.1),(9,iv k.2.2.1),(10,k.2.2.2.v),(11,iv ((dw 0 (cs.take k.1)).length:Nat)),(12,iv k.1)]) (λk w'=>k.1<=cs.length/\Gg cs k.1 k.2.1 k.2.2.1/\∃V4,Sub V2 V4/\aF V4 k.2.2.2 ((dw 0 (cs.take k.1)).flatMap fg)/\Rel W V [.ay b5 (a8 aV) 27,.ay b2 (a8 aV) 27] V4 w') (λk _=>cs.length-k.1) (0, -1, -1,⟨none,0,0⟩) ?_;conv=>whnf
  refine⟨sB,⟨aa,.z rfl,V2,aS _,aA.nil _ _,H.sx⟩,?_⟩;clear H;rintro⟨k,fm,mn,rn⟩w⟨hk,hst,V4,ar,hnb,H⟩;dsimp only at hk hst hnb H |-;have hnl:=IB (cs.take k) 0;rw[bg]at hnl;have Uv:((dw 0 (cs.take k)).flatMap fg).length<=100000000:=by
   have:=Hh (f:=fg) (m:=65600) (l:=dw 0 (cs.take k)) λx hx=>by obtain⟨q1,q2,q3,_⟩:=yT _ _ x hx;rw[bg]at q2;have h1:=dq (n:=x.1) aa aa;have h3:=(hcl.2 _ (List.mem_of_mem_take q3)).2.2;have h2:=rW (b:=x.2.2) aa;simp only[fg,ak,aq];omega
   have h3:=kr 65600 (show(dw 0 (cs.take k)).length<=1000 by omega);omega
  by_cases hlt:k<cs.length
  ·have mJ:k<ks.length:=aa;obtain⟨hp,jF,iA⟩:=(hks.up ar).fF (g:=λx:sQ=>iv x.1) (g':=λx:sQ=>x.2.v) (λ_=>rfl) mJ;have s8:=uC.all k _ _ (bz mJ) (bz hlt);have HE:=hcl.2 _ (bS hlt);have t1:=PC hlt;have hat:cs[k]?=some cs[k]:=bz hlt;generalize ks[k]=x at jF iA s8;obtain⟨xn,xs⟩:=x;obtain⟨hid,fS⟩:=s8;dsimp only at hid fS jF iA;generalize cs[k]=c at hid fS HE t1 hat;subst hid;have hcd:=fS.up ar;have hby:c.1.toNat<256:=dm _;have amU:=HE.2.2;by_cases oc:c.1.toNat=70
   ·have gH:dA c=true:=(wb c).2 (.inl oc);have HB:c.1=70:=bL.1 (by rw[oc];rfl);have ye:=SX t1 gH;cases hst with
    | z h =>
     refine wk ?_;refine⟨sB,(k+1,k, -1,rn),⟨rfl,rfl,rfl,ax (λz=>some (bO .i64 z)) (by dsimp only;rw[t1,tq,ag gH,aZ]),rfl,trivial⟩,⟨by dsimp only;omega,?_,V4,ar,?_,H.sx⟩,by dsimp only;omega⟩
     ·dsimp only;refine .f (f:=c.2) ?_ (by rw[hat];exact ax some (GK HB));rw[ye,h,aL];exact ax (λz=>[z]) (GK HB)
     dsimp only;rw[t1,tq,ag gH,aZ];exact hnb
    | @f i f h h2 =>
     rw[eN (IW (k:=k+1) (A:=[(70,f),c]) (by rw[ye,h];rfl) (λf' d' hp=>by obtain⟨t,ht⟩:=hp;simp only[bb,aL,List.cons.injEq]at ht;obtain⟨_,ht,_⟩:=ht;rw[ht]at HB;cases HB))]
     refine H.wg ?_;intro w H;exact⟨V2,aV,⟨none,0,0⟩,zeroV,[],hV2,Rel.less H.sx hV2 (by first|exact aS _|assumption),cG _,aA.nil _ _,rfl⟩
    | @d i j f d h h2 h3 =>
     rw[eN (IW (k:=k+1) (A:=[(70,f),(68,d),c]) (by rw[ye,h];rfl) (λf' d' hp=>by have:=hp.length_le;simp at this))]
     refine H.wg ?_;intro w H;exact⟨V2,aV,⟨none,0,0⟩,zeroV,[],hV2,Rel.less H.sx hV2 (by first|exact aS _|assumption),cG _,aA.nil _ _,rfl⟩
   by_cases h68:c.1.toNat=68
   ·have gH:dA c=true:=(wb c).2 (.inr h68);have HA:c.1=68:=bL.1 (by rw[h68];rfl);have ye:=SX t1 gH;cases hst with
    | z h =>
     rw[eN (IW (k:=k+1) (A:=[c]) (by rw[ye,h];rfl) (λf' d' hp=>by obtain⟨t,ht⟩:=hp;simp only[bb,aL,List.cons.injEq]at ht;rw[ht.1]at HA;cases HA))]
     refine H.wg ?_;intro w H;exact⟨V2,aV,⟨none,0,0⟩,zeroV,[],hV2,Rel.less H.sx hV2 (by first|exact aS _|assumption),cG _,aA.nil _ _,rfl⟩
    | @f i f h h2 =>
     refine wk ?_;refine⟨sB,(k+1,i,k,rn),⟨rfl,rfl,rfl,ax (λz=>some (bO .i64 z)) (by dsimp only;rw[t1,tq,ag gH,aZ]),rfl,trivial⟩,⟨by dsimp only;omega,?_,V4,ar,?_,H.sx⟩,by dsimp only;omega⟩
     ·dsimp only;refine .d (f:=f) (d:=c.2) ?_ h2 (by rw[hat];exact ax some (GK HA));rw[ye,h];exact ax (λz=>[(70,f),z]) (GK HA)
     dsimp only;rw[t1,tq,ag gH,aZ];exact hnb
    | @d i j f d h h2 h3 =>
     rw[eN (IW (k:=k+1) (A:=[(70,f),(68,d),c]) (by rw[ye,h];rfl) (λf' d' hp=>by have:=hp.length_le;simp at this))]
     refine H.wg ?_;intro w H;exact⟨V2,aV,⟨none,0,0⟩,zeroV,[],hV2,Rel.less H.sx hV2 (by first|exact aS _|assumption),cG _,aA.nil _ _,rfl⟩
   have gH:¬dA c=true:=λh=>by have:=(wb c).1 h;omega
   have hns:dw 0 (cs.take (k+1))=dw 0 (cs.take k)++[((k:Int),c)]:=by rw[t1,tq,ae gH,bg,tB hk,dR]
   have hpk:=dq (n:=(k:Int)) aa aa;have M6:=rW (b:=c.2) aa;refine wk ?_;refine dX (id:=20) V4 [2,9,10,11] [7,8,16] [0,1,3,4,5,6,7,8,12,13,14,15,16,2,9,10,11,17,18,19] [(2,[]),(9,[]),(10,[2,9]),(11,[2,9,10]),(17,[2,9,10,11]),(18,[2,9,10,11,17])] H ?_;intro w H;repeat' (refine wk ?_;first|(first|refine Kv.go H ?_|refine Kv.go2 H (by assumption) ?_|refine jI ?_|refine And.intro ?_ ?_|(refine H.nA ?_;intro w _ H))|(refine(iR (n:=(k:Int)) H.data (by constructor<;>omega)).use ?_;rintro q w⟨r1,rfl,K⟩;(replace H:=Rel.call H K);simp only[bb,aL]at H))
   all_goals
    refine wk ?_;have H0:Rel W V [.ay _ [.int .u8 (wr .u8 (c.1.toNat:Nat))] 5,.row r1 5 1 ((az k).flatMap aI),.ay b5 (a8 aV) 27,.ay b2 (a8 aV) 27] V4 w:=H.pick;replace H0:=H0.cB (c':=aI c.1) (by rw[show wr .u8 ((c.1.toNat:Nat):Int)=(c.1.toNat:Int)from(by show((c.1.toNat:Nat):Int)%256=_;omega)]);refine Rel.bF (f:=aI) (s:=r1) (l:=az k) (x:=c.1) rfl (λ_=>rfl) (bc.1 rfl) H0 (by simp;omega) aa ?_;clear H H0;intro r2 w H;repeat' (refine wk ?_;(first|refine Kv.go H ?_|refine Kv.go2 H (by assumption) ?_|refine jI ?_|refine And.intro ?_ ?_|(refine H.nA ?_;intro w _ H)))
    obtain⟨V5,aN,H,hr2⟩:=Rel.aJ H;refine wk ?_;refine(lf H.data (hnb.up aN) hr2 (by simp only[ak,aq,aK];omega)).use ?_;rintro q w⟨r3,rfl,K⟩;replace H:=H.cq K;repeat' (refine wk ?_;(first|refine Kv.go H ?_|refine Kv.go2 H (by assumption) ?_|refine jI ?_|refine And.intro ?_ ?_|(refine H.nA ?_;intro w _ H)))
    obtain⟨V6,bC,H,hr3⟩:=Rel.aJ H;have TL:=aN.trans bC;refine wk ?_;refine(Ov H.data ((hcd.up aN).up bC) aa).use ?_;rintro q w⟨r4,rfl,K⟩;replace H:=H.cq K;repeat' (refine wk ?_;(first|refine Kv.go H ?_|refine Kv.go2 H (by assumption) ?_|refine jI ?_|refine And.intro ?_ ?_|(refine H.nA ?_;intro w _ H)))
    obtain⟨V7,fH,H,hr4⟩:=Rel.aJ H;refine wk ?_;refine(lf H.data (hr3.up fH) hr4 (by simp only[ak,aq,aK];omega)).use ?_;rintro q w⟨r5,rfl,K⟩;replace H:=H.cq K;obtain⟨V8,l5,H,jU⟩:=Rel.aJ H;refine wk ?_;refine⟨sB,(k+1,fm,mn,r5),⟨rfl,rfl,rfl,ax (λz=>some (bO .i64 z)) (by dsimp only;rw[hns];simp),rfl,trivial⟩,⟨by dsimp only;omega,?_,V8,(((ar.trans aN).trans bC).trans fH).trans l5,?_,H.sx⟩,by dsimp only;omega⟩
    ·dsimp only;cases hst with
     | z h=>exact .z (by rw[LC t1 gH];exact h)
     | f h h2=>exact .f (by rw[LC t1 gH];exact h) h2
     | d h h2 h3=>exact .d (by rw[LC t1 gH];exact h) h2 h3
    dsimp only;rw[hns];have:(dw 0 (cs.take k)++[((k:Int),c)]).flatMap fg=(dw 0 (cs.take k)).flatMap fg++(az k++[c.1])++eh c.2:=by simp[fg]
    rw[this];exact jU
  rw[bJ aa]at hnb;have hkN:k=cs.length:=aa;subst hkN;cases hst with
  | z h =>rw[fA]at h;rw[eN (Wr (by rw[h];decide))];refine H.wg ?_;intro w H;exact⟨V2,aV,⟨none,0,0⟩,zeroV,[],hV2,Rel.less H.sx hV2 (by first|exact aS _|assumption),cG _,aA.nil _ _,rfl⟩
  | @f i f h h2 =>rw[fA]at h;rw[eN (Wr (by rw[h];simp))];refine H.wg ?_;intro w H;exact⟨V2,aV,⟨none,0,0⟩,zeroV,[],hV2,Rel.less H.sx hV2 (by first|exact aS _|assumption),cG _,aA.nil _ _,rfl⟩
  | @d i j f d h h2 h3 =>
   rw[fA]at h;have htl:cs.take cs.length=cs:=fA;have A7:(dw 0 (cs.take cs.length)).length=(dw 0 cs).length:=by rw[htl]
   have D4:=Ws h;have hcs:mj cs=if vC f d then some (FH f d (dw 0 cs))else none:=by rw[mj,D4]
   obtain⟨hi,Uk⟩:=dH.1 h2;obtain⟨hj,yk⟩:=dH.1 h3;have qe:i<ks.length:=aa;have A5:j<ks.length:=aa;obtain⟨hp,jF,iA⟩:=(hks.up ar).fF (g:=λx:sQ=>iv x.1) (g':=λx:sQ=>x.2.v) (λ_=>rfl) qe;obtain⟨vU,hr1,hr2⟩:=(hks.up ar).fF (g:=λx:sQ=>iv x.1) (g':=λx:sQ=>x.2.v) (λ_=>rfl) A5;have gH:=(uC.all i _ _ (bz qe) h2).data.up ar;have nr:=(uC.all j _ _ (bz A5) h3).data.up ar;generalize ks[i]=x at jF iA gH;generalize ks[j]=y at hr1 hr2 nr;obtain⟨xn,xs⟩:=x;obtain⟨yn,ys⟩:=y;dsimp only at gH nr jF iA hr1 hr2;have hfl:=gH.len;have hdl:=nr.len;have hdb:=GY (c:=(68,d)) (by rw[h];simp);have hfb:=GY (c:=(70,f)) (by rw[h];simp);dsimp only at hdb hfb;by_cases A3:f.length=4;rotate_left
   ·rw[eN (by rw[hcs,ae (λh=>A3 h.1)])];refine H.wg ?_;intro w H;exact⟨V2,aV,⟨none,0,0⟩,zeroV,[],hV2,Rel.less H.sx hV2 (by first|exact aS _|assumption),cG _,aA.nil _ _,rfl⟩
   obtain⟨p0,d0⟩:=gH.iK (i:=0) aa;obtain⟨_,d1⟩:=gH.iK (i:=1) aa;obtain⟨_,d2⟩:=gH.iK (i:=2) aa;obtain⟨_,d3⟩:=gH.iK (i:=3) aa;have g0:at8 f 0<256:=dm _;have g1:at8 f 1<256:=dm _;have g2:at8 f 2<256:=dm _;have g3:at8 f 3<256:=dm _;refine wk ((gd (at8 f 2:Nat) 1 2 w).use ?_);rintro q w'⟨rfl,rfl⟩;by_cases q1:(1:Int)<=(at8 f 2:Nat)/\((at8 f 2:Nat):Int)<=2;rotate_left
   ·rw[eN (by rw[hcs,ae (λh=>by have:=h.2.1;omega)]),bA q1];refine H.wg ?_;intro w H;exact⟨V2,aV,⟨none,0,0⟩,zeroV,[],hV2,Rel.less H.sx hV2 (by first|exact aS _|assumption),cG _,aA.nil _ _,rfl⟩
   rw[bw q1];refine wk ((gd (at8 f 3:Nat) 0 3 w).use ?_);rintro q w'⟨rfl,rfl⟩;by_cases q2:(0:Int)<=(at8 f 3:Nat)/\((at8 f 3:Nat):Int)<=3;rotate_left
   ·rw[eN (by rw[hcs,ae (λh=>by have:=h.2.2.1;omega)]),bA q2];refine H.wg ?_;intro w H;exact⟨V2,aV,⟨none,0,0⟩,zeroV,[],hV2,Rel.less H.sx hV2 (by first|exact aS _|assumption),cG _,aA.nil _ _,rfl⟩
   rw[bw q2];refine wk ?_;obtain⟨M,hM⟩:∃M,M=(at8 f 3%2+1)*at8 f 2:=⟨_,rfl⟩
   have Dt:1<=M/\M<=4:=by rcases(by omega:at8 f 2=1\/at8 f 2=2)with h|h<;>rw[h]at hM<;>omega
   have hMi:(1+((at8 f 3:Nat):Int)%2)*((at8 f 2:Nat):Int)=(M:Int):=by rw[hM];push_cast;rw[Int.add_comm]
   rw[hMi];have aeq:((ys.len:Nat):Int)%(M:Int)=((d.length%M:Nat):Int):=by rw[hdl];exact(Int.natCast_emod _ _).symm
   by_cases hm:d.length%M=0;rotate_left
   ·rw[eN (by rw[hcs,ae (λh=>hm (by rw[hM];exact h.2.2.2))])];refine H.wg ?_;intro w H;exact⟨V2,aV,⟨none,0,0⟩,zeroV,[],hV2,Rel.less H.sx hV2 (by first|exact aS _|assumption),cG _,aA.nil _ _,rfl⟩
   have hok:vC f d:=⟨A3,aa,aa,by rw[<-hM];exact hm⟩
   rw[hcs,ag hok]at e;simp only at e;obtain⟨X,hX⟩:∃X,X=FH f d (dw 0 cs):=⟨_,rfl⟩
   rw[<-hX]at e;have x1:X.rate=256*at8 f 0+at8 f 1:=by rw[hX];rfl
   have x2:X.ch=at8 f 2:=by rw[hX];rfl
   have x3:X.coding=at8 f 3:=by rw[hX];rfl
   have x4:X.jc=iT d (at8 f 3) (at8 f 2):=by rw[hX];rfl
   have x5:X.notes=dw 0 cs:=by rw[hX];rfl
   have fu:=Yl d (at8 f 3) (at8 f 2);have hB:VB 1048576 (nL X.rate X.ch (jL X.jc)):=Qk (by constructor<;>omega) (by constructor<;>omega) (by rw[FI,x4];omega);refine wk ?_
   refine aM.C4 (λq:Nat×VH=>[(2,.pointer (some ⟨b2,0,none⟩)),(5,.pointer (some ⟨b5,0,none⟩)),(10,rn.v),(11,iv ((dw 0 (cs.take cs.length)).length:Nat)),(15,iv (at8 f 3:Nat)),(16,.pointer (some ⟨q.1,0,none⟩))])
    (λq w'=>∃V5,Sub V4 V5/\cb V5 q.2 (nL X.rate X.ch (jL X.jc))/\Rel W V [.ay q.1 (a8 q.2) 27,.ay b5 (a8 aV) 27,.ay b2 (a8 aV) 27] V5 w') ?_ ?_
   ·refine dX (id:=29) V4 [18,20] [2,3,7,8,15] [0,1,2,3,4,5,6,7,8,9,10,11,12,13,14,15,16,17,18,19,20,21] [(18,[]),(19,[18]),(20,[]),(21,[18,19,20])] H ?_;intro w H;repeat' ((first|(refine H.zQ ?_;intros;rename_i w H;constructor)|refine wk ?_);first|(first|refine Kv.go H ?_|refine Kv.go2 H (by assumption) ?_|refine jI ?_|refine And.intro ?_ ?_|(refine H.nA ?_;intro w _ H))|(refine(ako H.data aa aa (by first|exact nr) aa).use ?_;rintro q w⟨rv,rfl,K⟩;(replace H:=Rel.call H K);simp only[bb,aL]at H;obtain⟨V5,aN,H,hrv⟩:=Rel.aJ H)|(refine(ahE (ch:=at8 f 2) H.data _ aa hrv aa PB).use ?_;rintro q w⟨V6,hh,bC,K,rfl,hvv⟩;(replace H:=Rel.call H K);have TL:=aN.trans bC;simp only[aL]at H))
    all_goals
     refine H.wg ?_;intro w H;refine⟨(_,hh),sB,V6,TL,?_,H.pick⟩;dsimp only;rw[x1,x2,x4];exact hvv
   clear H;rintro⟨QV,hh⟩w⟨V5,aN,hvv,H⟩;dsimp only at H hvv;refine wk (H.us (w9 H.data hvv hB) ?_);intro w H;have nn:=ar.trans aN;by_cases hvf:(ct (nL X.rate X.ch (jL X.jc))).1=0;rotate_left
   ·have e2:gg l=none:=by rw[e,tI,ag hvf]
    rw[e2];refine H.wg ?_;intro w H;exact⟨V5,aV,⟨none,0,0⟩,zeroV,[],hV2.trans nn,H.sx,cG _,aA.nil _ _,rfl⟩
   rw[zO hvf];have e2:gg l=some (nL X.rate X.ch (jL X.jc),kR X.coding X.notes):=by rw[e,tI,ae (λh=>h hvf)]
   rw[e2,x3,x5];have hnt:=EK h;by_cases q3:at8 f 3=1/\(dw 0 cs).length=0
   ·obtain⟨q3a,q3b⟩:=q3;rw[show kR (at8 f 3) (dw 0 cs)=[]by rw[kR,ag ⟨q3a,dt q3b⟩]];refine H.wg ?_;intro w H;exact⟨V5,hh,⟨none,0,0⟩,_,[],hV2.trans nn,H.sx,hvv,aA.nil _ _,rfl,rfl⟩
   have er:kR (at8 f 3) (dw 0 cs)=(az (at8 f 3:Nat)++az ((dw 0 cs).length:Nat))++(dw 0 cs).flatMap fg:=by rw[kR,ae (λh=>q3 ⟨h.1,by rw[h.2];rfl⟩),cm,bj]
   rw[er];have a1:=dq (n:=((at8 f 3:Nat):Int)) aa aa;have a2:=dq (n:=(((dw 0 cs).length:Nat):Int)) aa aa;have am3:((dw 0 cs).flatMap fg).length<=100000000:=by rw[fA]at Uv;exact Uv
   by_cases q4:at8 f 3=1
   ·have q5:(dw 0 cs).length≠0:=λh=>q3 ⟨q4,h⟩;refine wk ?_;refine dV 34 [2,4,5,7] [0,1,3,6,2,4,5,7,8,9,10] H ?_;intro w H;refine wk ?_;refine(iR (n:=((at8 f 3:Nat):Int)) H.data (by constructor<;>omega)).use ?_;rintro q w⟨r1,rfl,K⟩;replace H:=H.cq K;refine wk ?_;obtain⟨V6,bC,H,hr1⟩:=Rel.aJ H;refine(iR (n:=(((dw 0 (cs.take cs.length)).length:Nat):Int)) H.data (by constructor<;>omega)).use ?_;rintro q w⟨r2,rfl,K⟩;replace H:=H.cq K;refine wk ?_;obtain⟨V7,fH,H,hr2⟩:=Rel.aJ H;rw[htl]at hr2;refine(lf H.data (hr1.up fH) hr2 aa).use ?_;rintro q w⟨r3,rfl,K⟩;replace H:=H.cq K;refine wk ?_;obtain⟨V8,l5,H,hr3⟩:=Rel.aJ H;have xU:=(bC.trans fH).trans l5;refine(lf H.data hr3 (hnb.up (aN.trans xU)) (by rw[ak];omega)).use ?_;rintro q w⟨r4,rfl,K⟩;replace H:=H.cq K;refine H.wg ?_;intro w H;obtain⟨V9,jC,H,hr4⟩:=Rel.aJ H;exact⟨V9,hh,r4,_,_,((hV2.trans nn).trans xU).trans jC,H.sx,(hvv.up xU).up jC,hr4,rfl,rfl⟩
   refine wk ?_;refine dV 34 [2,4,5,7] [0,1,3,6,2,4,5,7,8,9,10] H ?_;intro w H;refine wk ?_;refine(iR (n:=((at8 f 3:Nat):Int)) H.data (by constructor<;>omega)).use ?_;rintro q w⟨r1,rfl,K⟩;replace H:=H.cq K;refine wk ?_;obtain⟨V6,bC,H,hr1⟩:=Rel.aJ H;refine(iR (n:=(((dw 0 (cs.take cs.length)).length:Nat):Int)) H.data (by constructor<;>omega)).use ?_;rintro q w⟨r2,rfl,K⟩;replace H:=H.cq K;refine wk ?_;obtain⟨V7,fH,H,hr2⟩:=Rel.aJ H;rw[htl]at hr2;refine(lf H.data (hr1.up fH) hr2 aa).use ?_;rintro q w⟨r3,rfl,K⟩;replace H:=H.cq K;refine wk ?_;obtain⟨V8,l5,H,hr3⟩:=Rel.aJ H;have xU:=(bC.trans fH).trans l5;refine(lf H.data hr3 (hnb.up (aN.trans xU)) (by rw[ak];omega)).use ?_;rintro q w⟨r4,rfl,K⟩;replace H:=H.cq K;refine H.wg ?_;intro w H;obtain⟨V9,jC,H,hr4⟩:=Rel.aJ H;exact⟨V9,hh,r4,_,_,((hV2.trans nn).trans xU).trans jC,H.sx,(hvv.up xU).up jC,hr4,rfl,rfl⟩
end Go.Proofs.YtmoiobegbpkkbaaGreatDoor
