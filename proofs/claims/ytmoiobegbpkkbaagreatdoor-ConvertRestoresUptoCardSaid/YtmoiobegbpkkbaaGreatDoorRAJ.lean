import Derived.Test.YtmoiobegbpkkbaaGreatDoorRAI
import Derived.Lib.IndexEntry
import Derived.Shelf.Spec.DecodeRune
import Derived.Shelf.Bytes.SlTrimWalks
import Derived.Test.YtmoiobegbpkkbaaGreatDoorRows
import Derived.WalkKit
import Derived.ProofKit
import Derived.OpenShut
import Derived.JoinedCond
open Bool renaming and_eq_true->dM,or_eq_true->rf,false_and->yA,eq_iff_iff->Gq
open List renaming getElem?_map->eu,getElem?_range->pP,all_eq_true->bj,mem_cons->bB,append_nil->cm,length_nil->aI,take_append_drop->eN,length_cons->av,take_append->DH,take_of_length_le->bR,append_assoc->bJ,cons_append->aL,nil_append->aA,mapM_cons->LH,mem_map->cG,length_append->aq,length_take->bb,length_drop->bd,mem_append->cq,mem_range->sN,eq_nil_of_length_eq_zero->bL,getElem?_take->AU,mem_of_getElem?->fH,pairwise_append->ue,getElem_mem->cj,take_succ_eq_append_getElem->bZ,take_length->fR,flatMap_append->bT,mem_singleton->cv,drop_zero->kZ,getElem?_eq_getElem->a8,head?_cons->pS,set_cons_zero->bC,length_map->bu,map_append->eZ,length_pos_iff->jF,ne_nil_of_length_pos->Lz,dropWhile_cons->Tt,length_replicate->A3,count_cons->DE,count_append->TF
open Nat renaming le_refl->aK,add_zero->mK,zero_add->dU,zero_le->cu
open Option renaming map_some->gA,bind_some->Gy,map_eq_some_iff->il,bind_eq_some_iff->Gs
open UInt8 renaming toNat_ofNat'->jl,toNat_inj->eF
namespace Go.Proofs.YtmoiobegbpkkbaaGreatDoor
open Go Go.RowKit
set_option maxRecDepth 100000
set_option maxHeartbeats 8000000
variable{P:Program}{w V V':ae}{s:Sl}{l t:ad}{i n:Nat}{c:UInt8}{k:Bool}
section
open Go Go.RowKit Go.Shelf
theorem af7(h:ay w s l)(c:Int):(Extern.BytealgIndexByte.indexByte #[s.v,.int .u8 c]).run P w=.ok (iv (Lib.indexByte l c.toNat.toUInt8)) w:=by
 have hs:=Lib.run_indexByteString (P:=P) ⟨l.toArray⟩ c w
 change Sem.run P (do
  let b <-Extern.Bytes.bytesOf s.v
  let c <-Extern.Bytes.asByte (.int .u8 c)
  match(List.range b.size).find? λi=>b[i]! == c with
  | some i=>pure (goInt i)
  | none=>pure (goInt (-1))) w=_
 change Sem.run P (do
  let b <-Extern.Bytes.bytesOf (.string ⟨l.toArray⟩)
  let c <-Extern.Bytes.asByte (.int .u8 c)
  match(List.range b.size).find? λi=>b[i]! == c with
  | some i=>pure (goInt i)
  | none=>pure (goInt (-1))) w=_ at hs
 simp only[Sem.run_bind,GP h,Result.andThen]at hs |-;simp only[Extern.Bytes.bytesOf,Sem.run_pure]at hs;exact hs
theorem af5(h:ay w s l)(c:Int):(Extern.BytealgCount.count #[s.v,.int .u8 c]).run P w=.ok (iv (l.count c.toNat.toUInt8:Nat)) w:=by
 have hs:=Lib.run_countString (P:=P) ⟨l.toArray⟩ c w
 change Sem.run P (do
  let b <-Extern.Bytes.bytesOf s.v
  let c' <-Extern.Bytes.asByte (.int .u8 c)
  pure (goInt (b.foldl (λn x=>if x == c' then n+1 else n) (0:Nat)))) w=_
 change Sem.run P (do
  let b <-Extern.Bytes.bytesOf (.string ⟨l.toArray⟩)
  let c' <-Extern.Bytes.asByte (.int .u8 c)
  pure (goInt (b.foldl (λn x=>if x == c' then n+1 else n) (0:Nat)))) w=_ at hs
 simp only[Sem.run_bind,GP h,Result.andThen]at hs |-;simp only[Extern.Bytes.bytesOf,Sem.run_pure]at hs;exact hs
theorem MW(c:UInt8):((c.toNat:Nat):Int).toNat.toUInt8=c:=ai
section
variable{V W:ae}
theorem abJ(hV:Sub V W){s:Sl}{l:ad}(hs:ay V s l)(c:UInt8):aC 330 [s.v,bv c] W λv w'=>v=iv (Lib.indexByte l c)/\Rel W V [] V w' :=
 eD.FW Tryz.func330 aj aj aj (e:=Extern.BytealgIndexByte.indexByte) aj (af7 (hs.up hV) c.toNat) ⟨by rw[MW],Rel.start hV⟩
theorem Ry(hV:Sub V W){s:Sl}{l:ad}(hs:ay V s l)(c:UInt8):aC 310 [s.v,bv c] W λv w'=>v=iv (Lib.indexByte l c)/\Rel W V [] V w':=by
 have H:=Rel.start hV;refine eV Tryz.func310 8 [0,1,4] ?_;refine wk ?_;refine(abJ H.data hs c).use ?_;rintro v w⟨rfl,K⟩;(replace H:=H.az K);refine wk ?_;exact H
theorem index_one(hV:Sub V W){s x:Sl}{l:ad}(hs:ay V s l){c:UInt8}(hx:ay V x [c]):aC 313 [s.v,x.v] W λv w'=>v=iv (Lib.indexByte l c)/\Rel W V [] V w':=by
 have H:=Rel.start hV;have hxl:x.len=1:=hx.len;obtain⟨p0,c0⟩:=hx.aX (g:=bv) (i:=0) (λ_=>rfl) ai;change V.cell? _=some (bv c)at c0;refine eV Tryz.func313 200 [0,1,4,5,6,7,8,9,10,11,12,13,14,15,16,17,18,19,22,25,33,40,41,46,52,69,75,84,105,114,121,138,144,153,174,189,196] ?_;refine wk ?_;refine(Ry H.data hs c).use ?_;rintro v w⟨rfl,K⟩;(replace H:=H.az K);refine wk ?_;exact H
theorem YO(hV:Sub V W){s:Sl}{l:ad}(hs:ay V s l)(c:UInt8):aC 336 [s.v,bv c] W λv w'=>v=iv (l.count c:Nat)/\Rel W V [] V w' :=
 eD.FW Tryz.func336 aj aj aj (e:=Extern.BytealgCount.count) aj (af5 (hs.up hV) c.toNat) ⟨by rw[MW],Rel.start hV⟩
theorem YN(hV:Sub V W){s x:Sl}{l:ad}(hs:ay V s l){c:UInt8}(hx:ay V x [c]):aC 312 [s.v,x.v] W λv w'=>v=iv (l.count c:Nat)/\Rel W V [] V w':=by
 have H:=Rel.start hV;have hxl:x.len=1:=hx.len;obtain⟨p0,c0⟩:=hx.aX (g:=bv) (i:=0) (λ_=>rfl) ai;change V.cell? _=some (bv c)at c0;refine eV Tryz.func312 35 [0,1,4,5,6,9,15,25] ?_;refine wk ?_;refine(YO H.data hs c).use ?_;rintro v w⟨rfl,K⟩;(replace H:=H.az K);refine wk ?_;exact H
theorem Rz(hV:Sub V W)(l:ad)(c:UInt8):aC 331 [str l,bv c] W λv w'=>v=iv (Lib.indexByte l c)/\Rel W V [] V w' :=
 eD.FW Tryz.func331 aj aj aj (e:=Extern.BytealgIndexByte.indexByte) aj (Lib.run_indexByteString _ _ _) ⟨by rw[MW],Rel.start hV⟩
end
def afw:Shelf.Ren:=⟨λx=>if x=32 then 314 else if x=49 then 340 else x,
 λx=>if x=0 then 0 else if x=3 then 3 else if x=4 then 4 else if x=5 then 5 else if x=21 then 21 else if x=25 then 132 else if x=30 then 22 else if x=33 then 365 else if x=66 then 258 else if x=68 then 260 else if x=69 then 261 else x,
 λx=>if x=2 then 0 else if x=3 then 1 else x⟩
theorem ab4:Lays7.n32 Tryz.prog afw where
 mixed:=aj
 f32:=Tryz.func314.trans (congrArg some aj)
 f49:=Tryz.func340.trans (congrArg some aj)
 t0:=Tryz.underlying0
 a0:=Tryz.isAgg0
 z0:=Tryz.sizeOf0
 v0:=Tryz.zeroValue0
 i0:=aj
 t3:=Tryz.underlying3
 a3:=Tryz.isAgg3
 z3:=Tryz.sizeOf3
 v3:=Tryz.zeroValue3
 i3:=aj
 t4:=Tryz.underlying4
 a4:=Tryz.isAgg4
 z4:=Tryz.sizeOf4
 v4:=Tryz.zeroValue4
 i4:=aj
 t5:=Tryz.underlying5
 a5:=Tryz.isAgg5
 z5:=Tryz.sizeOf5
 v5:=Tryz.zeroValue5
 i5:=aj
 t21:=Tryz.underlying21
 a21:=Tryz.isAgg21
 z21:=Tryz.sizeOf21
 v21:=Tryz.zeroValue21
 i21:=aj
 t25:=Tryz.underlying132
 a25:=Tryz.isAgg132
 z25:=Tryz.sizeOf132
 v25:=Tryz.zeroValue132
 i25:=aj
 t30:=Tryz.underlying22
 a30:=Tryz.isAgg22
 z30:=Tryz.sizeOf22
 v30:=Tryz.zeroValue22
 i30:=aj
 t33:=Tryz.underlying365
 a33:=Tryz.isAgg365
 z33:=Tryz.sizeOf365
 v33:=Tryz.zeroValue365
 i33:=aj
 t66:=Tryz.underlying258
 a66:=Tryz.isAgg258
 z66:=Tryz.sizeOf258
 t68:=Tryz.underlying260
 a68:=Tryz.isAgg260
 z68:=Tryz.sizeOf260
 v68:=Tryz.zeroValue260
 i68:=aj
 t69:=Tryz.underlying261
 a69:=Tryz.isAgg261
 z69:=Tryz.sizeOf261
 v69:=Tryz.zeroValue261
 i69:=aj
 g2:=aj
 g3:=aj
abbrev nW(V:ae):Prop:=Lib.Utf8Tabs 0 1 V
theorem sV(h:nW V)(k:Sub V V'):nW V' :=
 ⟨λc hc=>k.cell (h.1 c hc),λi hi=>⟨k.cell (h.2 i hi).1,k.cell (h.2 i hi).2⟩⟩
def zM(l:ad):Nat×Nat:=Lib.decodeN l.length (at8 l 0) (at8 l 1) (at8 l 2) (at8 l 3)
theorem I9(l:ad)(i:Nat):((⟨l.toArray⟩:ByteArray).get! i).toNat=at8 l i:=by
 show((l.toArray)[i]!).toNat=_;unfold at8;by_cases h:i<l.length
 ·simp[h]
 ·simp[h];rfl
theorem Y0(hne:l≠[]):Lib.decodeGo ⟨l.toArray⟩=zM l:=by
 have hs:(⟨l.toArray⟩:ByteArray).size=l.length:=by simp[ByteArray.size]
 have hl:=jF.2 hne;unfold Lib.decodeGo zM;rw[if_neg aa,Lib.decode_at,hs];simp only[I9,Nat.sub_zero,dU]
theorem Y4{W:ae}(hV:Sub V W)(hT:nW V){s:Sl}{l:ad}(hs:ay V s l)(hne:l≠[]):aC 314 [s.v] W λv w'=>v=.tuple #[.int .i32 ((zM l).1:Nat),iv ((zM l).2:Nat)]/\Rel W V [] V w':=by
 have hlen:=hs.len;obtain⟨hpl,_⟩:=hs.aX (g:=bv) (i:=0) (λ_=>rfl) (jF.2 hne);obtain⟨a,n,c⟩:=s;cases a with
 | none=>exact absurd hpl (by simp[Plain])
 | some p =>
  obtain⟨b,o,z⟩:=p;dsimp only at hlen hpl;obtain rfl:z=none:=by
   simp only[Plain,Option.some.injEq,Addr.mk.injEq]at hpl;exact hpl.2.2
  subst hlen;have hsz:(⟨l.toArray⟩:ByteArray).size=l.length:=by simp[ByteArray.size]
  have hc:=Any7.utf8_DecodeRune ab4 ⟨l.toArray⟩ b o c W (sV hT hV) (λj hj=>by
   rw[hsz]at hj;obtain⟨_,h⟩:=hs.aX (g:=bv) (λ_=>rfl) hj;rw[I9,rL hj];exact hV.cell h)
  rw[hsz,Y0 hne]at hc;exact eD.sF Tryz.func314 aj aj (Calls.lM hc λe w' ⟨he,hb⟩=>⟨_,he,rfl,Rel.ext (Rel.start hV) ⟨hb.os,hb.tape,hb.output,hb.size,hb.block⟩⟩)
def j2(s:UInt8)(l:ad):Int:=if(hK s l).2=[]then -1 else((hK s l).1.length:Nat)
theorem Kw{s:UInt8}(hi:i<l.length)(h:eA s (l.take i)=false)(ht:oO s l[i]=true):j2 s l=(i:Nat):=by
 have e:=MH (s:=s) (x:=l.take i) (t:=l[i]::l.drop (i+1)) h (.inr ⟨_,_,rfl,ht⟩);rw[<-List.drop_eq_getElem_cons hi,eN]at e;unfold j2;rw[e];simp only;rw[if_neg (Lz (by rw[bd];omega)),bb,Nat.min_eq_left (Nat.le_of_lt hi)]
theorem C8{s:UInt8}(h:eA s l=false):j2 s l = -1:=by
 have e:=MH (s:=s) (x:=l) (t:=[]) h (.inl rfl);rw[cm]at e;unfold j2;rw[e];rfl
theorem Vr{s:UInt8}(hs:s.toNat<128)(hc:128<=c.toNat):oO s c=false:=by
 have h1:c≠s:=λh=>by subst h;omega
 have h2:c≠34:=λh=>by subst h;exact absurd hc ag
 have h3:c≠13:=λh=>by subst h;exact absurd hc ag
 have h4:c≠10:=λh=>by subst h;exact absurd hc ag
 simp[oO,h1,h2,h3,h4]
theorem MB{s:UInt8}(hi:i<l.length)(h:eA s (l.take i)=false)(ht:oO s l[i]=false):eA s (l.take (i+1))=false:=by
 rw[bZ hi];unfold eA at h |-;rw[List.any_append,h];simpa using ht
theorem DU{s:UInt8}(hs:s.toNat<128){l:ad}{i:Nat}:∀ {k:Nat},i+k<=l.length->eA s (l.take i)=false->(∀j,i<=j->j<i+k->128<=at8 l j)->eA s (l.take (i+k))=false
 | 0,_,h,_=>h
 | k+1,hk,h,hj=>by
  have ih:=DU hs (k:=k) aa h λj h1 h2=>hj j h1 aa;have h8:=hj (i+k) aa aa;rw[rL (i:=i+k) aa]at h8;exact MB (i:=i+k) aa ih (Vr hs h8)
theorem FB(x:UInt8):∀l:ad,0<=Lib.indexByte l x↔x∈l
 | []=>by simp[Lib.indexByte]
 | b::l=>by
  have ih:=FB x l;have kT:=Lib.indexByte_ge l x;unfold Lib.indexByte;by_cases h:b=x
  ·subst h;simp
  ·have h2:¬x=b:=λe=>h e.symm;rw[if_neg (by simpa using h)];by_cases h3:Lib.indexByte l x = -1
   ·rw[h3]at ih |-;simp only[bB,h2,false_or,<-ih];simp
   ·rw[if_neg (by simpa using h3)];simp only[bB,h2,false_or,<-ih];omega
theorem I5{c x:UInt8}:(0<=Lib.indexByte [34,13,10,c] x)↔oO c x=true:=by
 rw[FB];simp only[oO,bB,List.not_mem_nil,or_false,rf,decide_eq_true_eq];constructor
 ·rintro(h|h|h|h)<;>simp[h]
 ·rintro(((h|h)|h)|h)<;>simp[h]
structure HF(n b1 b2 b3:Nat)(p:Nat×Nat):Prop where
 hi:128<=p.1
 lt:p.1<1114112
 w1:1<=p.2
 wn:p.2<=n
 w4:p.2<=4
 t1:1<p.2->128<=b1
 t2:2<p.2->128<=b2
 t3:3<p.2->128<=b3
 w2:p.1≠65533->2<=p.2
 enc:p.1≠65533->(Utf8.encode (p.1:Nat)).size=p.2
theorem IJ{c:Nat}(hv:c<55296\/(57344<=c/\c<=1114111)):(Utf8.encode (c:Nat)).size=if c<128 then 1 else if c<2048 then 2 else if c<65536 then 3 else 4:=by
 have h1:Utf8.valid (c:Int)=true:=by
  simp only[Utf8.valid,rf,dM,decide_eq_true_eq];omega
 simp only[Utf8.encode,h1,if_true,Int.toNat_natCast];repeat' split
 all_goals rfl
theorem Zo{c:Nat}(h:128<=c):∃e t,Utf8.encode (c:Nat)=⟨(e::t).toArray⟩/\128<=e.toNat:=by
 obtain⟨d,hd,hd2⟩:∃d,d=(if Utf8.valid (c:Int)then(c:Int).toNat else Utf8.runeError)/\(128<=d/\d<1114112):=by
  refine⟨_,rfl,?_⟩;split
  ·rename_i hv;simp only[Utf8.valid,rf,dM,decide_eq_true_eq]at hv;omega
  ·decide
 have hne:¬d<128:=aa;simp only[Utf8.encode,<-hd,hne,if_false];have u8:∀n,128<=n->n<256->128<=(UInt8.ofNat n).toNat:=λn h1 h2=>by rw[jl];omega
 split
 ·exact⟨_,_,rfl,u8 _ aa aa⟩
 ·split
  ·exact⟨_,_,rfl,u8 _ aa aa⟩
  ·exact⟨_,_,rfl,u8 _ aa aa⟩
theorem Y1{b0 b1 b2 b3:Nat}(hn:1<=n)(h0:128<=b0)(k0:b0<256)(k1:b1<256)(k2:b2<256)(k3:b3<256):HF n b1 b2 b3 (Lib.decodeN n b0 b1 b2 b3):=by
 have err:HF n b1 b2 b3 (65533,1):=⟨ag,ag,ag,hn,ag,ai,ai,ai,ai,ai⟩
 unfold Lib.decodeN;rw[if_neg aa];split
 ·rename_i g1;split
  ·refine⟨by dsimp only;omega,by dsimp only;omega,by dsimp only;omega,by dsimp only;omega,by dsimp only;omega,λ_=>by omega,λh=>by simp at h,λh=>by simp at h,λ_=>by dsimp only;omega,λ_=>?_⟩;rw[IJ (by dsimp only;omega)];dsimp only;rw[if_neg aa,if_pos aa]
  ·exact err
 ·split
  ·rename_i g1;split
   ·rename_i g2;refine⟨by dsimp only;omega,by dsimp only;omega,by dsimp only;omega,by dsimp only;omega,by dsimp only;omega,λ_=>by omega,λ_=>by omega,λh=>by simp at h,λ_=>by dsimp only;omega,λ_=>?_⟩;rw[IJ (by dsimp only;omega)];dsimp only;rw[if_neg aa,if_neg aa,if_pos aa]
   ·exact err
  ·split
   ·rename_i g1;split
    ·rename_i g2;refine⟨by dsimp only;omega,by dsimp only;omega,by dsimp only;omega,by dsimp only;omega,by dsimp only;omega,λ_=>by omega,λ_=>by omega,λ_=>by omega,λ_=>by dsimp only;omega,λ_=>?_⟩;rw[IJ (by dsimp only;omega)];dsimp only;rw[if_neg aa,if_neg aa,if_neg aa]
    ·exact err
   ·exact err
theorem NI(l:ad)(i j:Nat):at8 (l.drop i) j=at8 l (i+j):=by unfold at8;rw[List.getElem?_drop]
theorem Er(l:ad)(i:Nat):at8 l i<256:=UInt8.toNat_lt _
theorem Rw{e:UInt8}{t:ad}(he:128<=e.toNat):∀ {cs:ad},(∀b∈cs,b.toNat<128)->Lib.index cs (e::t) = -1
 | [],_=>rfl
 | b::cs,h=>by
  have hb:=h b ai;have hne:(e == b)=false:=by
   rw[beq_eq_false_iff_ne];intro h;subst h;omega
  unfold Lib.index;rw[Rw he λx hx=>h x (by simp[hx])];simp[List.isPrefixOf,hne]
theorem IG(hc:c.toNat<128){k:Nat}(hk:k<4):∃d,d<128/\Utf8.decode ⟨([34,13,10,c]:ad).toArray⟩ k=(d,1):=by
 refine⟨at8 [34,13,10,c] k,?_,?_⟩
 ·match k,hk with
  | 0,_=>exact(by decide:(34:UInt8).toNat<128)
  | 1,_=>exact(by decide:(13:UInt8).toNat<128)
  | 2,_=>exact(by decide:(10:UInt8).toNat<128)
  | 3,_=>exact hc
 ·rw[Lib.decode_at,I9];unfold Lib.decodeN;rw[if_pos];match k,hk with
  | 0,_=>exact(by decide:(34:UInt8).toNat<128)
  | 1,_=>exact(by decide:(13:UInt8).toNat<128)
  | 2,_=>exact(by decide:(10:UInt8).toNat<128)
  | 3,_=>exact hc
theorem Ob{s d:TypeId}(hs:(P.underlying s).isSome=true)(hd:P.underlying d=some .string){k:IntKind}{n:Int}{l:ad}(hn:Utf8.encode n=⟨l.toArray⟩){G:ao->ae->Prop}(hk:G (str l) w):bo P (convert s d (.int k n)) w G :=
 Rel.Im hs hd (by rw[hn];exact hk)
def mV(V:ae):Prop:=∃m:Int,V.cell? ⟨2,0,none⟩=some (.int .i64 m)
theorem mV.up(h:mV V)(k:Sub V V'):mV V':=by
 obtain⟨m,hm⟩:=h;exact⟨m,k.cell hm⟩
theorem Wo(h:n<2147483648):wr .i32 (n:Int)=(n:Int):=by
 unfold wr;simp only[IntKind.wrap,IntKind.bits,IntKind.signed];simp;omega
structure WI(r:Nat)(e:UInt8)(t:ad):Prop where
 out:Utf8.encode (r:Nat)=⟨(e::t).toArray⟩
section
variable{V W:ae}
theorem abM(hV:Sub V W){m:Int}(hm:V.cell? ⟨2,0,none⟩=some (.int .i64 m)){cs:ad}(hcs:∀b∈cs,b.toNat<128)(hl:cs.length<1000){e:UInt8}{t:ad}(he:128<=e.toNat)(h2:1<=t.length)(hb:(t.length:Int)+1<=m) :
  aC 334 [str cs,str (e::t)] W λv w'=>v=iv (-1)/\Rel W V [] V w':=by
 have hz:∀l:ad,(⟨l.toArray⟩:ByteArray).size=l.length:=λl=>by simp[ByteArray.size]
 refine eD.FW Tryz.func334 aj aj aj (e:=Extern.BytealgIndex.index) aj (Lib.run_indexString ⟨cs.toArray⟩ ⟨(e::t).toArray⟩ W 2 m aj (hV.cell hm) (by rw[hz,av];omega) (by rw[hz,av];omega) (by rw[hz];omega)) ⟨?_,Rel.start hV⟩;simp only[Rw he hcs]
theorem XD(hV:Sub V W)(n:Int):aC 333 [iv n] W λv w'=>v=.bool (decide (8<n))/\Rel W V [] V w':=by
 have H:=Rel.start hV;refine eV Tryz.func333 5 [0,2] ?_;refine wk ?_;exact H
def yQ(cs:ad):aD:=(List.range 256).map λj=>Value.bool (cs.contains (UInt8.ofNat j))
theorem ago(cs:ad)(x:UInt8):(yQ cs)[x.toNat]?=some (.bool (cs.contains x)):=by
 unfold yQ;rw[eu,pP x.toNat_lt];simp
def afy:Shelf.Ren:=⟨λ_=>295,λx=>if x=0 then 0 else if x=3 then 3 else if x=4 then 4 else if x=5 then 5 else if x=9 then 9 else if x=27 then 349 else x,λx=>x⟩
theorem ab5:SlLaysV.n11 Tryz.prog afy where
 mixed:=aj
 f11:=Tryz.func295.trans (congrArg some aj)
 t0:=Tryz.underlying0
 a0:=Tryz.isAgg0
 z0:=Tryz.sizeOf0
 v0:=Tryz.zeroValue0
 t3:=Tryz.underlying3
 a3:=Tryz.isAgg3
 z3:=Tryz.sizeOf3
 v3:=Tryz.zeroValue3
 t4:=Tryz.underlying4
 a4:=Tryz.isAgg4
 z4:=Tryz.sizeOf4
 v4:=Tryz.zeroValue4
 t5:=Tryz.underlying5
 a5:=Tryz.isAgg5
 z5:=Tryz.sizeOf5
 v5:=Tryz.zeroValue5
 t9:=Tryz.underlying9
 a9:=Tryz.isAgg9
 z9:=Tryz.sizeOf9
 v9:=Tryz.zeroValue9
 t27:=Tryz.underlying349
 a27:=Tryz.isAgg349
 z27:=Tryz.sizeOf349
theorem XC(hV:Sub V W){cs:ad}(hcs:∀b∈cs,b.toNat<128)(hl:cs.length<1000):aC 295 [str cs] W λv w'=>v=.tuple #[.agg (yQ cs).toArray,.bool true]/\Rel W V [] V w':=by
 have h:=Any.bytes_makeASCIISet ab5 (λw=>by kernel_rfl) aj ⟨cs.toArray⟩ W (by show cs.toArray.size<_;simp;omega) (λj b hb=>hcs b (fH (by simpa using hb)));have e:Lib.setCells (⟨cs.toArray⟩:ByteArray).data.toList=(yQ cs).toArray:=by
  rw[Lib.setCells_eq];unfold yQ;apply Array.ext';simp
 rw[e]at h;exact eD.sF Tryz.func295 aj aj (Calls.lM h λe w' ⟨he,hw⟩=>⟨_,he,rfl,by rw[hw];exact((Rel.start hV).newObj _).w9⟩)
theorem Z1{x:UInt8}:([34,13,10,c]:ad).contains x=oO c x:=by
 rw[Gq,List.contains_iff_mem,<-I5,FB]
theorem XB(hV:Sub V W){b:Nat}{cs:ad}(hb:di V b (yQ cs) 349)(x:UInt8):aC 319 [.pointer (some ⟨b,0,none⟩),bv x] W λv w'=>v=.bool (cs.contains x)/\Rel W V [] V w':=by
 have H:=Rel.start hV;have h1:=hb.bE (ago cs x);have C3:=x.toNat_lt;refine eV Tryz.func319 10 [0,1,4] ?_;refine wk ?_;rw[show x.toNat=placeOf 0 ((x.toNat:Nat):Int).toNat 1 by simp[placeOf]]at h1;refine⟨_,H.zL h1,?_⟩;refine wk ?_;exact H
theorem Ks(hV:Sub V W)(hT:nW V)(hM:mV V){s:Sl}{l:ad}(hs:ay V s l)(hl:l.length<=100000000){c:UInt8}(hc:c.toNat<128):aC 311 [s.v,str [34,13,10,c]] W λv w'=>v=iv (j2 c l)/\Rel W V [] V w':=by
 have H:=Rel.start hV;have hlen:=hs.len;have hz4:(ByteArray.mk ([34,13,10,c]:ad).toArray).size=4:=rfl;have hc4:∀b∈[34,13,10,c],b.toNat<128:=by simp[hc]
 obtain⟨m,hm⟩:=hM;refine eV Tryz.func311 129 [0,1,4,5,6,7,8,9,10,11,12,13,15,17,20,26,28,29,30,33,39,42,47,53,59,60,61,62,63,68,74,84,91,101,105,109,113,118,121,122,123,127] ?_;by_cases h1:l.length=1
 ·obtain⟨x,rfl⟩:∃x,l=[x]:=by
   match l,h1 with
   | [x],_=>exact⟨x,rfl⟩
  obtain⟨p0,c0⟩:=hs.aX (g:=bv) (i:=0) (λ_=>rfl) ai;change V.cell? _=some (bv x)at c0;have C3:=x.toNat_lt;have C1:wr .i32 (x.toNat:Int)=(x.toNat:Int):=Wo aa;by_cases hx:128<=x.toNat
  ·have e:j2 c [x] = -1:=C8 (by simp[eA,Vr hc hx]);rw[e];refine wk ?_;rw[C1];refine wk ?_;refine Rel.range ah rfl rfl H ?_;clear H;intro w b H;refine wk ?_;refine aY ah [0,1,6,7,8,9,10,11,12,13,15,17,20,26,28,39,42,47,53,59,60,61,62,63,68,74,84,91,101,105,109,113,118,121,122,123,127] (λ_:Nat=>[]) (λk w'=>k<=4/\Rel W V [.obj b (.stringIter ⟨([34,13,10,c]:ad).toArray⟩ k)] V w') (λk _=>4-k) 0 ?_;conv=>whnf
   refine⟨trivial,⟨aa,H⟩,?_⟩;clear H;rintro kk w⟨pA,H⟩;conv=>whnf
   refine Rel.next H (λhlt w H=>?_) (λhlt=>?_)
   ·have pz:kk<4:=hlt;obtain⟨d,hd,CD⟩:=IG hc pz;rw[CD]at H |-;refine wk ?_;exact⟨sB,kk+1,trivial,⟨aa,H⟩,aa⟩
   ·refine wk ?_;exact H.sx
  ·refine wk ?_;rw[C1];refine wk ?_;refine(Rz H.data _ x).use ?_;rintro v w⟨rfl,K⟩;(replace H:=H.az K);have hin:=@I5 c x;have kT:=Lib.indexByte_ge [34,13,10,c] x;generalize Lib.indexByte [34,13,10,c] x=z at hin kT;cases ht:oO c x with
   | true =>
    have e:j2 c [x]=0:=Kw (i:=0) ai rfl ht;rw[e];have hz0:=hin.2 ht;refine wk ?_;exact H.sx
   | false =>
    have e:j2 c [x] = -1:=C8 (by simp[eA,ht]);rw[e];have hz0:z<0:=by
     rcases Int.lt_or_le z 0 with h|h
     ·exact h
     ·rw[hin.1 h]at ht;cases ht
    refine wk ?_;exact H.sx
 refine wk ?_;refine(XD H.data s.len).use ?_;rintro v w⟨rfl,K⟩;(replace H:=H.az K);by_cases h8:8<l.length
 ·rw[decide_eq_true (show(8:Int)<s.len by omega)];refine wk ?_;refine(XC H.data hc4 ai).use ?_;rintro v w⟨rfl,K⟩;(replace H:=H.az K);refine wk ?_;refine H.nA ?_;clear H;intro w b7 H;refine H.wh ?_;clear H;intro w H;replace H:=H.bA (c':=yQ [34,13,10,c]) aW;obtain⟨V2,hV2,H,kO⟩:=H.bt;refine wk ?_;have om:=hs.up hV2;refine aY (S:=Nat) ah [0,1,5,6,7,8,11,12,13,15,17,20,26,28,29,30,33,39,42,47,53,59,60,61,74,84,91,101,105,109,113,118,121,122,123,127] (λi=>[(62,iv i)]) (λi w'=>i<=l.length/\eA c (l.take i)=false/\Rel W V [] V2 w') (λi _=>l.length-i) 0 ?_;conv=>whnf
  refine⟨sB,⟨aa,rfl,H⟩,?_⟩;clear H;rintro i w⟨hi,hno,H⟩;by_cases hlt:i<l.length;rotate_left
  ·rw[bR aa]at hno;rw[C8 hno];refine wk ?_;exact H.less (Sub.refl _) hV2
  obtain⟨p0,c0⟩:=om.aX (g:=bv) (λ_=>rfl) hlt;obtain⟨x,hx⟩:∃x,x=l[i]:=⟨_,rfl⟩
  rw[<-hx]at c0;have C3:=x.toNat_lt;refine wk ?_;refine(XB H.data kO x).use ?_;rintro v w⟨rfl,K⟩;(replace H:=H.az K);rw[Z1];cases ht:oO c x with
  | true =>
   have e:j2 c l=(i:Nat):=Kw hlt hno (by rw[<-hx];exact ht);rw[e];refine wk ?_;exact H.sx.less (Sub.refl _) hV2
  | false =>
   refine wk ?_;exact⟨sB,i+1,sB,⟨aa,MB hlt hno (by rw[<-hx];exact ht),H.sx⟩,aa⟩
 ·rw[decide_eq_false aa];refine wk ?_;refine aY (S:=Nat) ah [0,1,5,6,7,8,9,10,17,20,26,28,29,30,33,39,42,47,53,59,60,61,62,63,68] (λi=>[(12,iv i)]) (λi w'=>i<=l.length/\eA c (l.take i)=false/\Rel W V [] V w') (λi _=>l.length-i) 0 ?_;conv=>whnf
  refine⟨sB,⟨aa,rfl,H⟩,?_⟩;clear H;rintro i w⟨hi,hno,H⟩;by_cases hlt:i<l.length;rotate_left
  ·rw[bR aa]at hno;rw[C8 hno];refine wk ?_;exact H.sx
  obtain⟨p0,c0⟩:=hs.aX (g:=bv) (λ_=>rfl) hlt;obtain⟨x,hx⟩:∃x,x=l[i]:=⟨_,rfl⟩
  rw[<-hx]at c0;have C3:=x.toNat_lt;have C1:wr .i32 (x.toNat:Int)=(x.toNat:Int):=Wo aa;by_cases Fz:x.toNat<128
  ·refine wk ?_;rw[C1];refine wk ?_;refine(Rz H.data _ x).use ?_;rintro v w⟨rfl,K⟩;(replace H:=H.az K);have hin:=@I5 c x;have kT:=Lib.indexByte_ge [34,13,10,c] x;generalize Lib.indexByte [34,13,10,c] x=z at hin kT;cases ht:oO c x with
   | true =>
    have e:j2 c l=(i:Nat):=Kw hlt hno (by rw[<-hx];exact ht);rw[e];have hz0:=hin.2 ht;refine wk ?_;exact H.sx
   | false =>
    have hz0:z<0:=by
     rcases Int.lt_or_le z 0 with h|h
     ·exact h
     ·rw[hin.1 h]at ht;cases ht
    refine wk ?_;exact⟨sB,i+1,sB,⟨aa,MB hlt hno (by rw[<-hx];exact ht),H.sx⟩,aa⟩
  ·have dy:=hs.sub (n:=1) (λ_=>rfl) (a:=i) (b:=l.length) hi (aK _);rw[fR]at dy;have mo:=hs.cap;have hF:=Y1 (n:=(l.drop i).length) (b0:=at8 (l.drop i) 0) (b1:=at8 (l.drop i) 1) (b2:=at8 (l.drop i) 2) (b3:=at8 (l.drop i) 3) (by rw[bd];omega) (by rw[NI,mK,rL hlt,<-hx];omega) (Er _ _) (Er _ _) (Er _ _) (Er _ _);change HF _ _ _ _ (zM (l.drop i))at hF;refine wk ?_;rw[C1];refine wk ?_;refine(Y4 H.data hT (hlen▸dy) (Lz (by rw[bd];omega))).use ?_;rintro v w⟨rfl,K⟩;(replace H:=H.az K);obtain⟨r,k,hrk⟩:∃r k,zM (l.drop i)=(r,k):=⟨_,_,rfl⟩
   rw[hrk]at hF |-;obtain⟨f1,f2,f3,f4,f5,f6,f7,f8,f10,f9⟩:=hF;dsimp only at f1 f2 f3 f4 f5 f6 f7 f8 f9 f10 |-;rw[bd]at f4;rw[NI]at f6 f7 f8;have hbig:∀j,i<=j->j<i+k->128<=at8 l j:=λj h1 h2=>by
    have:j=i\/j=i+1\/j=i+2\/j=i+3:=aa;rcases this with rfl|rfl|rfl|rfl
    ·rw[rL hlt,<-hx];omega
    ·exact f6 aa
    ·exact f7 aa
    ·exact f8 aa
   obtain⟨zr,Kq⟩:∃zr:Int,zr=(r:Nat):=⟨_,rfl⟩
   rw[<-Kq];clear f2;by_cases xX:zr=65533
   ·refine wk ?_;refine Rel.range ah rfl rfl H ?_;clear H;intro w b H;refine wk ?_;refine aY ah [0,1,5,6,7,8,9,10,11,12,13,17,20,26,28,29,30,33,39,42,47,53,59,60,61,62,63,68,74,84,91,101,105,109,113,118,121] (λ_:Nat=>[]) (λk w'=>k<=4/\Rel W V [.obj b (.stringIter ⟨([34,13,10,c]:ad).toArray⟩ k)] V w') (λk _=>4-k) 0 ?_;conv=>whnf
    refine⟨trivial,⟨aa,H⟩,?_⟩;clear H;rintro kk w⟨pA,H⟩;conv=>whnf
    refine Rel.next H (λhlt w H=>?_) (λhlt=>?_)
    ·have pz:kk<4:=hlt;obtain⟨d,hd,CD⟩:=IG hc pz;rw[CD]at H |-;refine wk ?_;exact⟨sB,kk+1,trivial,⟨aa,H⟩,aa⟩
    ·refine wk ?_;refine⟨sB,i+k,sB,⟨aa,DU hc aa hno hbig,H.sx⟩,aa⟩
   obtain⟨e,t,hen,Fk⟩:=Zo f1;have hsz:=f9 aa;have iM:=f10 aa;rw[hen]at hsz;replace hen:WI r e t:=⟨hen⟩
   replace hsz:t.length+1=k:=by simpa [ByteArray.size]using hsz
   by_cases pz:k=4
   ·conv=>whnf
    refine cT ?_;conv=>whnf
    refine cT ?_;refine wk ?_;refine Ob rfl rfl (l:=e::t) (by rw[Kq];exact hen.out) ?_;conv=>whnf
    have hne:¬([34,13,10,c]:ad)=e::t:=λh=>by
     cases h;exact absurd Fk ag
    rw[decide_eq_false hne];refine wk ?_;refine⟨sB,i+k,sB,⟨aa,DU hc aa hno hbig,H.sx⟩,aa⟩
   ·by_cases bW:(k:Int)<=m
    ·conv=>whnf
     refine cT ?_;conv=>whnf
     refine cF ?_;conv=>whnf
     refine H.db ?_;conv=>whnf
     refine cT ?_;refine wk ?_;refine Ob rfl rfl (l:=e::t) (by rw[Kq];exact hen.out) ?_;refine wk ?_;refine(abM H.data hm hc4 ai Fk aa aa).use ?_;rintro v w⟨rfl,K⟩;(replace H:=H.az K);refine wk ?_;refine⟨sB,i+k,sB,⟨aa,DU hc aa hno hbig,H.sx⟩,aa⟩
    ·refine wk ?_;refine Rel.range ah rfl rfl H ?_;clear H;intro w b H;refine wk ?_;refine aY ah [0,1,5,6,7,8,9,10,11,12,13,17,20,26,28,29,30,33,39,42,47,53,59,60,61,62,63,68,74,84,91,101,105,109,113,118,121] (λ_:Nat=>[]) (λk w'=>k<=4/\Rel W V [.obj b (.stringIter ⟨([34,13,10,c]:ad).toArray⟩ k)] V w') (λk _=>4-k) 0 ?_;conv=>whnf
     refine⟨trivial,⟨aa,H⟩,?_⟩;clear H;rintro kk w⟨pA,H⟩;conv=>whnf
     refine Rel.next H (λhlt w H=>?_) (λhlt=>?_)
     ·have pz:kk<4:=hlt;obtain⟨d,hd,CD⟩:=IG hc pz;rw[CD]at H |-;refine wk ?_;exact⟨sB,kk+1,trivial,⟨aa,H⟩,aa⟩
     ·refine wk ?_;refine⟨sB,i+k,sB,⟨aa,DU hc aa hno hbig,H.sx⟩,aa⟩
end
end
section
variable{V W:ae}
theorem abU(s:UInt8)(l:ad):(0<=j2 s l)↔eA s l=true:=by
 cases h:eA s l with
 | false=>rw[C8 h];simp
 | true =>
  obtain⟨h1,h2⟩:=DX s l;have h3:(hK s l).2≠[]:=λe=>by
   rw[e,cm]at h1;rw[<-h1,h]at h2;cases h2
  unfold j2;rw[if_neg h3];simp only[iff_true];omega
theorem YC(hV:Sub V W)(hT:nW V)(hM:mV V){s:Sl}{l:ad}(hs:ay V s l)(hl:l.length<=100000000){c:UInt8}(hc:c.toNat<128):aC 282 [s.v,str [34,13,10,c]] W λv w'=>v=.bool (eA c l)/\Rel W V [] V w':=by
 have H:=Rel.start hV;refine eV Tryz.func282 9 [0,1,4] ?_;refine wk ?_;refine(Ks H.data hT hM hs hl hc).use ?_;rintro v w⟨rfl,K⟩;(replace H:=H.az K);have hin:=abU c l;generalize j2 c l=z at hin;have e:decide (z>=0)=eA c l:=by
  rw[Gq,decide_eq_true_eq,<-hin]
 refine wk ?_;first|rw[e]|rw[show decide (0<=z)=eA c l from e]
 exact⟨rfl,H.sx⟩
theorem EN:∀(a b:ad),cx (a++b)=cx a++cx b
 | [],b=>rfl
 | c::a,b=>by
  show cx (c::(a++b))=cx (c::a)++cx b;rw[cx,cx,EN a b];split<;>rfl
theorem B9:∀ {l:ad},l.count 34=0->cx l=l
 | [],_=>rfl
 | c::l,h=>by
  rw[DE]at h;unfold cx;by_cases hc:c=34
  ·rw[hc]at h;simp at h
  ·rw[if_neg hc,B9 aa]
theorem rS:∀(l:ad),(cx l).length=l.length+l.count 34
 | []=>rfl
 | c::l=>by
  have ih:=rS l;unfold cx;rw[DE];by_cases hc:c=34
  ·rw[if_pos hc,hc];simp[ih];omega
  ·rw[if_neg hc,if_neg (by simpa using hc)];simp[ih];omega
theorem Kr(c:UInt8):∀ {l:ad},0<l.count c->∃a r,l=a++c::r/\a.count c=0/\Lib.indexByte l c=(a.length:Nat)
 | [],h=>by simp at h
 | b::l,h=>by
  by_cases hb:b=c
  ·subst hb;exact⟨[],l,rfl,rfl,by simp[Lib.indexByte]⟩
  ·rw[DE,if_neg (by simpa using hb)]at h;obtain⟨a,r,h1,h2,h3⟩:=Kr c (l:=l) aa;refine⟨b::a,r,by rw[h1];rfl,?_,?_⟩
   ·rw[DE,h2,if_neg (by simpa using hb)]
   ·unfold Lib.indexByte;rw[if_neg (by simpa using hb),h3,if_neg (by simp;try omega)];rfl
theorem afD(hV:Sub V W){s x y:Sl}{l:ad}(hs:ay V s l)(hl:l.length<=100000000)(hx:ay V x [34])(hy:ay V y [34,34]):aC 284 [s.v,x.v,y.v,iv (-1)] W λv w'=>∃(V':ae) (r:Sl),Sub V V'/\Rel W V [] V' w'/\v=r.v/\ay V' r (cx l):=by
 have H:=Rel.start hV;have hlen:=hs.len;have mo:=hs.cap;have kj:l.count 34<=l.length:=List.count_le_length;obtain⟨xa,xn,xc⟩:=x;obtain⟨ya,yn,yc⟩:=y;obtain rfl:xn=1:=hx.len;obtain rfl:yn=2:=hy.len;change aC 284 [s.v,.slice xa 1 xc,.slice ya 2 yc,iv (-1)] W _;refine eV Tryz.func284 132 [0,1,2,3,8,9,10,11,12,13,15,16,18,23,32,47,48,49,50,88,89,90] ?_;refine wk ?_;refine(YN H.data hs hx).use ?_;rintro v w⟨rfl,K⟩;(replace H:=H.az K);by_cases h0:l.count 34=0
 ·rw[B9 h0];refine wk ?_;replace H:=H.cb 5 1;refine Rel.eJ (s:=⟨none,0,0⟩) (xs:=[]) H (i:=0) rfl hs (by simp;omega) ?_;clear H;intro r1 w H;simp only[bC]at H;rw[aA]at H;obtain⟨V2,hV2,H,hr⟩:=Rel.aT H (λ_=>rfl) ag;refine wk ?_;exact⟨V2,r1,hV2,H.sx,rfl,hr⟩
 obtain⟨m,hm⟩:∃m,m=l.count 34:=⟨_,rfl⟩
 rw[<-hm]at h0 kj |-;obtain⟨T,hTT⟩:∃T,T=l.length+m:=⟨_,rfl⟩
 refine wk ?_;rw[show((s.len:Nat):Int)+((m:Nat):Int)*(((2:Nat):Int)-((1:Nat):Int))=((T:Nat):Int)by rw[hlen,hTT];simp];refine GY ah rfl rfl rfl rfl rfl rfl aa (by simp;omega) aa λw b lH=>?_;replace H:=H.yr lH;clear lH;simp only[Int.toNat_natCast]at H |-;have tR:∀o,aU (some ⟨b,0,none⟩) o T 1=if T=o then some ⟨b,0,none⟩else some ⟨b,o,none⟩:=λo=>by unfold aU;split<;>simp[addr_add]
 have Zb:∀a:ad,cx (a++[34])=cx a++[34,34]:=λa=>by rw[EN];rfl
 refine wk ?_;refine aY (S:=Nat×Nat) ah [0,1,2,3,8,9,10,15,16,18,23,32,47,48,88,89,90] (λq=>[(11,iv ((q.2+q.1:Nat):Int)),(12,iv q.2),(49,iv q.1)]) (λq w'=>q.1<=m/\q.2<=l.length/\(l.take q.2).count 34=q.1/\Rel W V [.ax b ((cx (l.take q.2)).flatMap aE++List.replicate (T-(q.2+q.1)) (.int .u8 0)) 5] V w') (λq _=>m-q.1) (0,0) ?_;conv=>whnf
 refine⟨sB,⟨aa,aa,rfl,H⟩,?_⟩;clear H;rintro⟨k,st⟩w⟨hk,hst,po,H⟩;dsimp only at hk hst po H |-;have hel:((cx (l.take st)).flatMap aE).length=st+k:=by rw[fc,bu,rS,po,bb];omega
 have pn:(l.drop st).count 34+k=m:=by
  have:=TF (a:=(34:UInt8)) (l₁:=l.take st) (l₂:=l.drop st);rw[eN,<-hm,po]at this;omega
 by_cases hlt:k<m
 ·obtain⟨a,r,h1,h2,h3⟩:=Kr 34 (l:=l.drop st) aa;have hdl:=congrArg List.length h1;rw[bd,aq,av]at hdl;have dy:=hs.sub (n:=1) (λ_=>rfl) (a:=st) (b:=l.length) hst (aK _);rw[fR]at dy;have hsub2:=hs.sub (n:=1) (λ_=>rfl) (a:=st) (b:=st+a.length) aa aa;have aba:(l.take (st+a.length)).drop st=a:=by rw[List.drop_take,h1];simp
  rw[aba]at hsub2;have vu:l.take (st+a.length+1)=l.take st++a++[34]:=by
   conv=>lhs;rw[<-eN st l,h1]
   have e1:(l.take st).length=st:=by rw[bb];omega
   rw[DH,e1,bR aa];rw[show st+a.length+1-st=a.length+1 by omega];simp[DH,bR]
  refine wk ?_;refine(index_one H.data (hlen▸dy) hx).use ?_;rintro v w⟨rfl,K⟩;(replace H:=H.az K);rw[h3];refine wk ?_;(first|refine dV 15 [] [0,1,2,3,4,5,6,7,8,9,10] H ?_|refine dV 24 [] [0,1,2,3,4,5,6,7,8,9,10] H ?_|refine dV 28 [] [0,1,2,3,4,5,6,7,8,9] H ?_);clear H;intro w H;refine wk ?_;refine Rel.Iq ah rfl rfl rfl rfl H (i:=0) (o:=st+k) rfl (hsub2.up (Sub.refl _)) aa (by simp only[aq,A3,hel];omega) (λ_=>by rw[tR,if_neg aa];first|rfl|simp) ?_;clear H;intro w H;simp only[bC]at H;have qA:(a.flatMap aE).length=a.length:=by rw[fc,bu]
  rw[<-qA,Io hel aa,<-bT,qA]at H;refine wk ?_;have QA:((cx (l.take st)++a).flatMap aE).length=st+k+a.length:=by rw[bT,aq,hel,qA]
  refine Rel.Iq ah rfl rfl rfl rfl H (i:=0) (o:=st+k+a.length) rfl hy (by simp only[av,aI];omega) (by simp only[aq,A3,QA,av,aI];omega) (λ_=>by rw[tR,if_neg aa];congr 2) ?_;clear H;intro w H;simp only[bC]at H;have xo:(([34,34]:ad).flatMap aE).length=([34,34]:ad).length:=rfl;rw[<-xo,Io QA (by rw[xo];simp only[av,aI];omega),<-bT,xo]at H;rw[show cx (l.take st)++a++[34,34]=cx (l.take (st+a.length+1))by rw[vu,Zb,EN,B9 h2]]at H;rw[show T-(st+k)-a.length-([34,34]:ad).length=T-(st+a.length+1+(k+1))by simp only[av,aI];omega]at H;rw[show((([34,34]:ad).length:Nat):Int)=((2:Nat):Int)from rfl];refine wk ?_;refine⟨sB,(k+1,st+a.length+1),⟨?_,rfl,rfl,trivial⟩,⟨by dsimp only;omega,by dsimp only;omega,?_,H⟩,by dsimp only;omega⟩
  ·dsimp only;show some (iv (((st+k:Nat):Int)+(a.length:Int)+((2:Nat):Int)))=some (iv _);congr 2;omega
  ·dsimp only;rw[vu,TF,TF,po,h2];rfl
 ·obtain rfl:k=m:=aa;have dy:=hs.sub (n:=1) (λ_=>rfl) (a:=st) (b:=l.length) hst (aK _);rw[fR]at dy;refine wk ?_;(first|refine dV 15 [] [0,1,2,3,4,5,6,7,8,9,10] H ?_|refine dV 24 [] [0,1,2,3,4,5,6,7,8,9,10] H ?_|refine dV 28 [] [0,1,2,3,4,5,6,7,8,9] H ?_);clear H;intro w H;refine wk ?_;have abu:ay V ⟨aU s.a st s.cap 1,s.len-st,s.cap-st⟩ (l.drop st):=hlen▸dy;refine Rel.Iq ah rfl rfl rfl rfl H (i:=0) (o:=st+k) rfl abu (by rw[bd];omega) (by simp only[aq,A3,hel,bd];omega) (λh=>by rw[bd]at h;rw[tR,if_neg aa];first|rfl|simp) ?_;clear H;intro w H;simp only[bC]at H;have qA:((l.drop st).flatMap aE).length=(l.drop st).length:=by rw[fc,bu]
  rw[<-qA,Io hel (by rw[qA,bd];omega),<-bT,qA,show T-(st+k)-(l.drop st).length=0 by rw[bd];omega]at H;simp only[List.replicate_zero,cm]at H;rw[show cx (l.take st)++l.drop st=cx l by
   conv=>rhs;rw[<-eN st l,EN,B9 (l:=l.drop st) aa]]at H
  obtain⟨V2,hV2,H,hb⟩:=H.bt;have hbt:ay V2 ⟨some ⟨b,0,none⟩,T,T⟩ (cx l):=⟨by show T=_;rw[rS,<-hm];omega,aK _,hb.cells⟩
  have Qp:=hbt.sub (n:=1) (λ_=>rfl) (a:=0) (b:=T) (cu _) (by rw[rS,<-hm];omega);rw[kZ,bR (by rw[rS,<-hm];omega)]at Qp;have hdz:(l.drop st).length=l.length-st:=bd;rw[hdz];refine wk ?_;rw[show(((st+k:Nat):Int)+((l.length-st:Nat):Int)).toNat=T by omega];exact⟨V2,_,hV2,H.sx,rfl,Qp⟩
theorem GL(hV:Sub V W){s x y:Sl}{l:ad}(hs:ay V s l)(hl:l.length<=100000000)(hx:ay V x [34])(hy:ay V y [34,34]):aC 240 [s.v,x.v,y.v] W λv w'=>∃(V':ae) (r:Sl),Sub V V'/\Rel W V [] V' w'/\v=r.v/\ay V' r (cx l):=by
 have H:=Rel.start hV;refine eV Tryz.func240 11 [0,1,2,6] ?_;refine wk ?_;refine(afD H.data hs hl hx hy).use ?_;rintro v w⟨V2,r,hV2,K,rfl,hr⟩;(replace H:=H.az K);refine wk ?_;exact⟨V2,r,hV2,H.sx,rfl,hr⟩
end
abbrev Ay(n:Nat)(k:Bool):aD:=[iv (n:Nat),.bool k]
def rN(s:UInt8)(l:ad):Option (bG×ad):=if l.head?=some 34 then(match fk l.tail with
  | none=>none
  | some p=>some ((p.1,true),p.2))else some (((hK s l).1,false),(hK s l).2)
theorem TW(s:UInt8)(l:ad):oE s l=match rN s l with
  | none=>none
  | some (c,t)=>if t.head?=some 34 then none else some (c,t):=by
 unfold oE rN;split
 ·cases h:fk l.tail with
  | none=>rfl
  | some p =>
   simp only;rw[if_neg (DL (x:=p.1) (t:=p.2) h).2]
 ·rfl
def vH(x:ad)(o:Option (ad×ad)):Option (ad×ad):=o.map λp=>(x++p.1,p.2)
theorem aec(o:Option (ad×ad)):vH [] o=o:=by cases o<;>rfl
theorem Lf(x y:ad)(o:Option (ad×ad)):vH x (vH y o)=vH (x++y) o:=by cases o<;>simp[vH]
theorem L7{d:UInt8}(h:c≠34):fk (c::d::t)=vH [c] (fk (d::t)):=by
 rw[fk,if_neg h];cases fk (d::t)<;>rfl
theorem TZ:∀ {t:ad},t.count 34=0->fk t=none
 | [],_=>rfl
 | [c],h=>by
  unfold fk;rw[if_neg];rintro rfl;simp at h
 | c::d::t,h=>by
  rw[DE]at h;have hc:c≠34:=by rintro rfl;simp at h
  rw[L7 hc,TZ aa];rfl
theorem ae1{a r:ad}(h:a.count 34=0)(hr:r.head?≠some 34):fk (a++34::r)=some (a,r):=by
 have:=T0 a hr;rwa [B9 h]at this
theorem L8:∀ {a r:ad},a.count 34=0->fk (a++34::34::r)=vH (a++[34]) (fk r)
 | [],r,_=>by
  show fk (34::34::r)=_;rw[fk,if_pos rfl,if_pos rfl];cases fk r<;>rfl
 | [c],r,h=>by
  have hc:c≠34:=by rintro rfl;simp at h
  show fk (c::34::34::r)=_;rw[L7 hc];have:=L8 (a:=[]) (r:=r) rfl;rw[aA]at this;rw[this,Lf];rfl
 | c::d::a,r,h=>by
  rw[DE]at h;have hc:c≠34:=by rintro rfl;simp at h
  show fk (c::d::(a++34::34::r))=_;rw[L7 hc];have:=L8 (a:=d::a) (r:=r) aa;rw[aL]at this;rw[this,Lf];rfl
theorem aho(s:UInt8)(l:ad):(j2 s l = -1/\(hK s l)=(l,[]))\/∃i:Nat,i<l.length/\j2 s l=i/\hK s l=(l.take i,l.drop i):=by
 have h1:=(DX s l).1;unfold j2;generalize hK s l=p at h1 |-;obtain⟨u,v⟩:=p;dsimp only at h1 |-;by_cases hv:v=[]
 ·rw[if_pos hv];rw[hv,cm]at h1;exact .inl ⟨rfl,by rw[hv,h1]⟩
 ·rw[if_neg hv];have hp:=jF.2 hv;subst h1;exact .inr ⟨u.length,by rw[aq];omega,rfl,ai⟩
theorem Bc(n:Nat):(aO n).toNat<128/\aO n≠34/\aO n≠13/\aO n≠10:=by
 unfold aO;split
 ·decide
 ·split<;>decide
theorem Mr(hn:n<3):([34,13,10]:ad).length=3/\([44,59,9]:ad).length=3/\(List.drop ((n:Nat):Int).toNat (List.take (((n:Nat):Int)+1).toNat ([44,59,9]:ad))).length=1/\([34,13,10]:ad)++List.drop ((n:Nat):Int).toNat (List.take (((n:Nat):Int)+1).toNat ([44,59,9]:ad))=[34,13,10,aO n]:=by
 match n,hn with
 | 0,_=>exact⟨rfl,rfl,rfl,rfl⟩
 | 1,_=>exact⟨rfl,rfl,rfl,rfl⟩
 | 2,_=>exact⟨rfl,rfl,rfl,rfl⟩
section
variable{V W:ae}
theorem rT(hV:Sub V W)(c i:Int):aC 150 [iv c,iv i] W λv w'=>v=kg c i/\Rel W V [] V w':=by
 have H:=Rel.start hV;refine eV Tryz.func150 8 [0,1,4] ?_;refine H.wg ?_;clear H;intro _ _ w H;first|exact H.sx|exact⟨rfl,H.sx⟩
theorem B7(hV:Sub V W)(n:Nat)(k:Bool):aC 241 [.agg (Ay n k).toArray] W λv w'=>∃(V':ae) (r:Sl),Sub V V'/\Rel W V [] V' w'/\v=r.v/\ay V' r (cd k):=by
 have H:=Rel.start hV;refine eV Tryz.func241 9 [0,1,2,4] ?_;cases k with
 | true =>
  refine wk ?_;refine H.nA ?_;clear H;intro w b1 H;refine wk ?_;refine H.nA ?_;clear H;intro w b2 H;replace H:=H.bA (c':=([13,10]:ad).flatMap aE) rfl;refine wk ?_;refine Rel.uW (b:=b2) (l:=[13,10]) Tryz.underlying22 Tryz.underlying5 H rfl ?_;clear H;intro V2 w hV2 hx H;refine wk ?_;exact⟨V2,_,hV2,H.sx,rfl,hx⟩
 | false =>
  refine wk ?_;refine H.nA ?_;clear H;intro w b1 H;refine wk ?_;refine H.nA ?_;clear H;intro w b2 H;replace H:=H.bA (c':=([10]:ad).flatMap aE) rfl;refine wk ?_;refine Rel.uW (b:=b2) (l:=[10]) Tryz.underlying22 Tryz.underlying5 H rfl ?_;clear H;intro V2 w hV2 hx H;refine wk ?_;exact⟨V2,_,hV2,H.sx,rfl,hx⟩
theorem KM(hV:Sub V W)(hT:nW V)(hM:mV V){n:Nat}(hn:n<3)(k:Bool){s:Sl}{l:ad}(hs:ay V s l)(hl:l.length<=100000000):aC 238 [.agg (Ay n k).toArray,s.v] W λv w'=>v=.bool (eA (aO n) l)/\Rel W V [] V w':=by
 have H:=Rel.start hV;obtain⟨P0,P1,hcut,CU⟩:=Mr hn;refine eV Tryz.func238 14 [0,1,2,4] ?_;refine wk ?_;refine H.nA ?_;clear H;intro w b1 H;refine wk ?_;rw[CU];refine(YC H.data hT hM hs hl (Bc n).1).use ?_;rintro v w⟨rfl,K⟩;(replace H:=H.az K);refine wk ?_;first|exact H.sx|exact⟨rfl,H.sx⟩
structure WC(w0 V0:ae)(own:bU)(b n:Nat)(k:Bool)(V:ae)(o:Option (bG×ad))(v:ao)(w':ae):Prop where
 ex:∃(V':ae) (c q:Sl) (f g:Bool),Sub V V'/\Rel w0 V0 (.ax b [iv (n:Nat),.bool k,q.v] 336::own) V' w'/\v=.tuple #[c.v,.bool f,.bool g]/\(match o with
  | none=>g=false
  | some x=>g=true/\f=x.1.2/\ay V' c x.1.1/\ay V' q x.2)
theorem wo(h:ay V s l){i:Nat}(hi:i<=l.length):ay V ⟨aU s.a 0 s.cap 1,i-0,s.cap-0⟩ (l.take i)/\ay V ⟨aU s.a i s.cap 1,s.len-i,s.cap-i⟩ (l.drop i):=by
 have h1:=h.sub (n:=1) (λ_=>rfl) (a:=0) (b:=i) (cu _) hi;have h2:=h.sub (n:=1) (λ_=>rfl) (a:=i) (b:=l.length) hi (aK _);rw[fR,<-h.len]at h2;rw[kZ]at h1;exact⟨h1,h2⟩
theorem Yd{w0 V0:ae}{own:bU}{b:Nat}{q:Sl}(H:Rel w0 V0 (.ax b [iv (n:Nat),.bool k,q.v] 336::own) V W)(hT:nW V)(hM:mV V)(hn:n<3)(hq:ay V q l)(hl:l.length<=100000) :
  aC 281 [.pointer (some ⟨b,0,none⟩)] W (WC w0 V0 own b n k V (rN (aO n) l)):=by
 generalize hw0:W=wz at H;subst hw0;have vr:=hq.len;have CQ:=hq.cap;obtain⟨P0,P1,hcut,CU⟩:=Mr hn;refine eV Tryz.func281 102 [0,2,3,4,5,6,7,22,31,49,79] ?_;by_cases hh:l.head?=some 34
 ·obtain⟨t,rfl⟩:∃t,l=34::t:=by
   cases l with
   | nil=>cases hh
   | cons c t=>cases hh;exact⟨t,rfl⟩
  obtain⟨p0,c0⟩:=hq.aX (g:=bv) (i:=0) (λ_=>rfl) ai;change V.cell? _=some (bv 34)at c0;have e0:rN (aO n) (34::t)=match fk t with
   | none=>none
   | some p=>some ((p.1,true),p.2):=by unfold rN;rw[if_pos pS];rfl
  rw[e0];rw[av]at vr hl;have vu:=(wo hq (i:=1) ai).2;rw[show List.drop 1 (34::t)=t from rfl]at vu;refine wk ?_;replace H:=H.cb 5 1;refine aY (S:=Sl×ad×Sl×ad) ah [0,7,22,79] (λz=>[(2,z.1.v),(5,z.2.2.1.v)]) (λz w'=>fk t=vH z.2.1 (fk z.2.2.2)/\ay V z.2.2.1 z.2.2.2/\z.2.1.length+z.2.2.2.length<=t.length/\Rel w0 V0 (.row z.1 5 1 (z.2.1.flatMap aE)::.ax b [iv (n:Nat),.bool k,q.v] 336::own) V w') (λz _=>z.2.2.2.length) (⟨none,0,0⟩,[],⟨aU q.a 1 q.cap 1,q.len-1,q.cap-1⟩,t) ?_;conv=>whnf
  refine⟨sB,⟨(aec _).symm,vu,ai,H⟩,?_⟩;clear H;rintro⟨cs,x,r,u⟩w⟨bF,hr,hxl,H⟩;dsimp only at bF hr hxl H |-;have hrn:=hr.len;have je:=hr.cap;refine wk ?_;refine(Ry H.data hr 34).use ?_;rintro v w⟨rfl,K⟩;(replace H:=Rel.call H K);simp only[aA]at H;by_cases h0:u.count 34=0
  ·have hno:¬0<=Lib.indexByte u 34:=λh=>by
    rw[FB]at h;have:=List.count_pos_iff.2 h;omega
   rw[bF,TZ h0];generalize Lib.indexByte u 34=z at hno;refine wk ?_;exact⟨V,⟨none,0,0⟩,q,true,false,Sub.refl _,H.sx,rfl,rfl⟩
  obtain⟨a,r2,hu,ha,CJ⟩:=Kr 34 (l:=u) aa;rw[CJ];have tT:=congrArg List.length hu;rw[aq,av]at tT;have xG:=(wo hr (i:=a.length) aa).1;have kP:=(wo hr (i:=a.length+1) aa).2;rw[show u.take a.length=a by rw[hu];simp]at xG;rw[show u.drop (a.length+1)=r2 by rw[hu];simp]at kP;have Fg:=kP.len;have aaH:=kP.cap;dsimp only at Fg aaH;refine wk ?_;(first|refine dV 6 [] [0,1,2,3,5,6,7,8,4,9,10] H ?_|refine dV 10 [] [0,3,4,1,2,5,6] H ?_|refine dV 11 [] [0,1,2,3,4,5,6,7,8,9,10,11,12,13,14,15,16,17,18] H ?_|refine dV 14 [] [0,1,2,3,4,5,6,7,8,9,10,11,12,13,14,15,16] H ?_);clear H;intro w H;refine wk ?_;refine Rel.eJ H (i:=0) rfl xG aa ?_;clear H;intro ie w H;simp only[bC]at H;by_cases he:r2.head?=some 34
  ·obtain⟨r3,rfl⟩:∃t,r2=34::t:=by
    cases r2 with
    | nil=>cases he
    | cons c t=>cases he;exact⟨t,rfl⟩
   rw[av]at tT Fg;obtain⟨p1,c1⟩:=kP.aX (g:=bv) (i:=0) (λ_=>rfl) ai;change V.cell? _=some (bv 34)at c1;have pn:=(wo kP (i:=1) ai).2;rw[show List.drop 1 (34::r3)=r3 from rfl]at pn;refine wk ?_;(first|refine dV 6 [] [0,1,2,3,5,6,7,8,4,9,10] H ?_|refine dV 10 [] [0,3,4,1,2,5,6] H ?_|refine dV 11 [] [0,1,2,3,4,5,6,7,8,9,10,11,12,13,14,15,16,17,18] H ?_|refine dV 14 [] [0,1,2,3,4,5,6,7,8,9,10,11,12,13,14,15,16] H ?_);clear H;intro w H;refine H.wg ?_;clear H;intro _ w H;refine Rel.dC (f:=aE) (s:=ie) (l:=x++a) (x:=34) ah rfl rfl rfl rfl rfl ag (λ_=>rfl) (by simp[Value.oneCell']) H (by show((x++a).length+1)*1<=_;rw[aq];omega) (by rw[aq];omega) ?_;clear H;intro YP w H;refine wk ?_;refine⟨sB,(YP,x++a++[34],⟨aU (aU r.a (a.length+1) r.cap 1) 1 (r.cap-(a.length+1)) 1,r.len-(a.length+1)-1,r.cap-(a.length+1)-1⟩,r3),sB,⟨?_,pn,?_,H.sx⟩,?_⟩
   ·rw[bF,hu,L8 ha,Lf,<-bJ]
   ·simp only[aq,av,aI];omega
   ·dsimp only;omega
  ·have CG:fk t=some (x++a,r2):=by rw[bF,hu,ae1 ha he];rfl
   rw[CG];cases r2 with
   | nil =>
    rw[aI]at tT Fg;refine H.wg ?_;clear H;intro w H;obtain⟨V2,hV2,H,hr1⟩:=Rel.aT H (λ_=>rfl) ag;refine wk ?_;exact⟨V2,ie,_,true,true,hV2,H,rfl,rfl,rfl,hr1,kP.up hV2⟩
   | cons d r3 =>
    rw[av]at tT Fg;obtain⟨p1,c1⟩:=kP.aX (g:=bv) (i:=0) (λ_=>rfl) ai;change V.cell? _=some (bv d)at c1;have hd:d.toNat≠34:=λh=>he (by rw[pS];congr 1;exact eF.1 h);refine H.wg ?_;clear H;intro w H;obtain⟨V2,hV2,H,hr1⟩:=Rel.aT H (λ_=>rfl) ag;refine wk ?_;exact⟨V2,ie,_,true,true,hV2,H,rfl,rfl,rfl,hr1,kP.up hV2⟩
 ·have e0:rN (aO n) l=some (((hK (aO n) l).1,false),(hK (aO n) l).2):=by unfold rN;rw[if_neg hh]
  rw[e0];obtain⟨i,hi,JL,vw⟩:∃i:Nat,i<=l.length/\(j2 (aO n) l=i/\i<l.length\/j2 (aO n) l = -1/\i=l.length)/\hK (aO n) l=(l.take i,l.drop i):=by
   rcases aho (aO n) l with⟨h1,h2⟩|⟨i,h1,h2,h3⟩
   ·exact⟨l.length,aK _,.inr ⟨h1,rfl⟩,by rw[h2,fR,List.drop_length]⟩
   ·exact⟨i,aa,.inl ⟨h2,h1⟩,h3⟩
  rw[vw];obtain⟨xG,kP⟩:=wo hq hi;have hiq:i<=q.len:=by rw[vr];exact hi
  generalize Rv:j2 (aO n) l=za at JL;cases l with
  | nil =>
   have hq0:q.len=0:=vr;refine wk ?_;(first|refine dV 6 [] [0,1,2,3,5,6,7,8,4,9,10] H ?_|refine dV 10 [] [0,3,4,1,2,5,6] H ?_|refine dV 11 [] [0,1,2,3,4,5,6,7,8,9,10,11,12,13,14,15,16,17,18] H ?_|refine dV 14 [] [0,1,2,3,4,5,6,7,8,9,10,11,12,13,14,15,16] H ?_);clear H;intro w H;refine wk ?_;rw[CU];refine(Ks H.data hT hM hq aa (Bc n).1).use ?_;rintro v w⟨rfl,K⟩;(replace H:=Rel.call H K);simp only[aA]at H;rw[Rv];rcases JL with⟨rfl,eE⟩|⟨rfl,eE⟩
   ·refine wk ?_;refine wk ?_;(first|refine dV 6 [] [0,1,2,3,5,6,7,8,4,9,10] H ?_|refine dV 10 [] [0,3,4,1,2,5,6] H ?_|refine dV 11 [] [0,1,2,3,4,5,6,7,8,9,10,11,12,13,14,15,16,17,18] H ?_|refine dV 14 [] [0,1,2,3,4,5,6,7,8,9,10,11,12,13,14,15,16] H ?_);clear H;intro w H;refine H.wg ?_;clear H;intro w H;refine(uU H.data xG (by rw[bb];omega)).use ?_;rintro v w⟨r,rfl,K⟩;(replace H:=Rel.call H K);simp only[aL,aA]at H;obtain⟨V2,hV2,H,hr1⟩:=Rel.aT H (λ_=>rfl) ag;refine wk ?_;exact⟨V2,r,_,false,true,hV2,H,rfl,rfl,rfl,hr1,kP.up hV2⟩
   ·obtain rfl:i=q.len:=by first|omega|(rw[eE,vr];rfl)
    refine wk ?_;refine wk ?_;(first|refine dV 6 [] [0,1,2,3,5,6,7,8,4,9,10] H ?_|refine dV 10 [] [0,3,4,1,2,5,6] H ?_|refine dV 11 [] [0,1,2,3,4,5,6,7,8,9,10,11,12,13,14,15,16,17,18] H ?_|refine dV 14 [] [0,1,2,3,4,5,6,7,8,9,10,11,12,13,14,15,16] H ?_);clear H;intro w H;refine H.wg ?_;clear H;intro w H;refine(uU H.data xG (by rw[bb];omega)).use ?_;rintro v w⟨r,rfl,K⟩;(replace H:=Rel.call H K);simp only[aL,aA]at H;obtain⟨V2,hV2,H,hr1⟩:=Rel.aT H (λ_=>rfl) ag;refine wk ?_;exact⟨V2,r,_,false,true,hV2,H,rfl,rfl,rfl,hr1,kP.up hV2⟩
  | cons d t =>
   obtain⟨p0,c0⟩:=hq.aX (g:=bv) (i:=0) (λ_=>rfl) ai;change V.cell? _=some (bv d)at c0;have hd:d.toNat≠34:=λh=>hh (by rw[pS];congr 1;exact eF.1 h);rw[av]at vr;refine wk ?_;(first|refine dV 6 [] [0,1,2,3,5,6,7,8,4,9,10] H ?_|refine dV 10 [] [0,3,4,1,2,5,6] H ?_|refine dV 11 [] [0,1,2,3,4,5,6,7,8,9,10,11,12,13,14,15,16,17,18] H ?_|refine dV 14 [] [0,1,2,3,4,5,6,7,8,9,10,11,12,13,14,15,16] H ?_);clear H;intro w H;refine wk ?_;rw[CU];refine(Ks H.data hT hM hq aa (Bc n).1).use ?_;rintro v w⟨rfl,K⟩;(replace H:=Rel.call H K);simp only[aA]at H;rw[Rv];rcases JL with⟨rfl,eE⟩|⟨rfl,eE⟩
   ·refine wk ?_;refine wk ?_;(first|refine dV 6 [] [0,1,2,3,5,6,7,8,4,9,10] H ?_|refine dV 10 [] [0,3,4,1,2,5,6] H ?_|refine dV 11 [] [0,1,2,3,4,5,6,7,8,9,10,11,12,13,14,15,16,17,18] H ?_|refine dV 14 [] [0,1,2,3,4,5,6,7,8,9,10,11,12,13,14,15,16] H ?_);clear H;intro w H;refine H.wg ?_;clear H;intro w H;refine(uU H.data xG (by rw[bb];omega)).use ?_;rintro v w⟨r,rfl,K⟩;(replace H:=Rel.call H K);simp only[aL,aA]at H;obtain⟨V2,hV2,H,hr1⟩:=Rel.aT H (λ_=>rfl) ag;refine wk ?_;exact⟨V2,r,_,false,true,hV2,H,rfl,rfl,rfl,hr1,kP.up hV2⟩
   ·obtain rfl:i=q.len:=by first|omega|(rw[eE,vr];rfl)
    refine wk ?_;refine wk ?_;(first|refine dV 6 [] [0,1,2,3,5,6,7,8,4,9,10] H ?_|refine dV 10 [] [0,3,4,1,2,5,6] H ?_|refine dV 11 [] [0,1,2,3,4,5,6,7,8,9,10,11,12,13,14,15,16,17,18] H ?_|refine dV 14 [] [0,1,2,3,4,5,6,7,8,9,10,11,12,13,14,15,16] H ?_);clear H;intro w H;refine H.wg ?_;clear H;intro w H;refine(uU H.data xG (by rw[bb];omega)).use ?_;rintro v w⟨r,rfl,K⟩;(replace H:=Rel.call H K);simp only[aL,aA]at H;obtain⟨V2,hV2,H,hr1⟩:=Rel.aT H (λ_=>rfl) ag;refine wk ?_;exact⟨V2,r,_,false,true,hV2,H,rfl,rfl,rfl,hr1,kP.up hV2⟩
end
abbrev zj(V:ae)(x:Sl)(r:bg):Prop:=RL cZ ju V x r
theorem nb:∀(V V':ae) (x:Sl) (y:bg),Sub V V'->zj V x y->zj V' x y:=λV V' x y k ⟨xs,h1,h2⟩=>⟨xs,h1.up k,h2.up (λ_ _ _ _ k h=>h.up k) k⟩
def mX(V:ae)(s:Sl)(T:jN):Prop:=RL cZ zj V s T
theorem mX.up{V V':ae}{s:Sl}{T:jN}(h:mX V s T)(k:Sub V V'):mX V' s T:=by
 obtain⟨xs,h1,h2⟩:=h;exact⟨xs,h1.up k,h2.up nb k⟩
theorem mX.len{V:ae}{s:Sl}{T:jN}(h:mX V s T):s.len=T.length:=by
 obtain⟨xs,h1,h2⟩:=h;rw[h1.len,h2.len]
theorem mX.nil(V:ae):mX V ⟨none,0,0⟩ []:=⟨[],aB.nil _ _,Pw.nil⟩
abbrev iy(n:Nat)(k:Bool)(rs qs:Sl)(o:Bool):aD:=[iv (n:Nat),.bool k,rs.v,qs.v,.bool o]
structure W0(W V:ae)(n:Nat)(k:Bool)(x:Option (List (List bG)×Bool))(v:ao)(w':ae):Prop where
 ex:∃(V':ae) (m:Nat) (j:Bool) (rs qs:Sl) (o g:Bool),Sub V V'/\Rel W V [] V' w'/\v=.tuple #[.agg (iy m j rs qs o).toArray,.bool g]/\(match x with
  | none=>g=false
  | some (R,op)=>g=true/\m=n/\j=k/\o=op/\mX V' rs (kD R)/\aB cK V' qs (nz (qn (aO n) 0 R.flatten)))
theorem Be(R:List (List bG))(r:List bG):kD (R++[r])=kD R++[r.map Prod.fst]:=by simp[kD]
theorem ph{α:Type}(R:List (List α))(r:List α):(R++[r]).flatten=R.flatten++r:=ai
theorem Ha(k:Bool):1<=(cd k).length/\(cd k).length<=2:=by cases k<;>decide
theorem JC(h:t.head?=some 34)(h2:t.take (cd k).length=cd k):False:=by
 cases t with
 | nil=>cases h
 | cons c t =>
  cases h;cases k
  ·exact absurd (congrArg List.head? h2) (by simp[cd])
  ·exact absurd (congrArg List.head? h2) (by simp[cd])
theorem GZ(hn:n<3):([44,59,9]:ad)[((n:Nat):Int).toNat]?=some (aO n):=by
 match n,hn with
 | 0,_=>rfl
 | 1,_=>rfl
 | 2,_=>rfl
theorem Yb{s:UInt8}{c:bG}(h:rN s l=some (c,t)):c.1.length+t.length<=l.length:=by
 unfold rN at h;split at h
 ·rename_i hh;cases l with
  | nil=>cases hh
  | cons d l =>
   split at h
   ·cases h
   ·rename_i p hp;cases h;have:=congrArg List.length (DL (x:=p.1) (t:=p.2) hp).1;rw[aq,av,rS,List.tail_cons]at this;rw[av];dsimp only;omega
 ·cases h;have:=congrArg List.length (DX s l).1;rw[aq]at this;dsimp only;omega
section
variable{V W:ae}
theorem T7(hV:Sub V W)(hT:nW V)(hM:mV V){n:Nat}(hn:n<3)(k:Bool){s:Sl}{l:ad}(hs:ay V s l)(hl:l.length<=1000):aC 232 [s.v,.agg (Ay n k).toArray] W (W0 W V n k (im (aO n) (cd k) l)):=by
 have H:=Rel.start hV;have hlen:=hs.len;obtain⟨P0,P1,hcut,CU⟩:=Mr hn;refine eV Tryz.func232 109 [0,1,3,4,5,6,7,8,9,10,11,12,13,14,26,34,42,60,78,98] ?_;refine wk ?_;refine H.nA ?_;clear H;intro w b3 H;refine wk ?_;refine H.nA ?_;clear H;intro w b4 H;refine wk ?_;refine Mo ah ?_;refine wk ?_;refine H.nA ?_;clear H;intro w HU H;refine wk ?_;refine H.nA ?_;clear H;intro w b7 H;refine H.wh ?_;clear H;intro w H;replace H:=(H.cb 3 1).cb 96 1;have H0:Rel W V [.ax HU [iv (n:Nat),.bool k,s.v] 336,.row ⟨none,0,0⟩ 96 1 [],.row ⟨none,0,0⟩ 3 1 [],.ax b7 (iy n k ⟨none,0,0⟩ ⟨none,0,0⟩ false) 187,.ax b4 (iy 0 false ⟨none,0,0⟩ ⟨none,0,0⟩ false) 187,.ax b3 (Ay n k) 185] V w:=H.pick;clear H;have H:=H0;clear H0;refine aY (S:=Sl×ad×List (List bG)×Sl×List Sl×Sl) ah [0,1,3,4,6,7] (λz=>[(8,iv (z.2.2.1.flatten.length:Nat))]) (λz w'=>im (aO n) (cd k) l=uo (aO n) (cd k) z.2.2.1 z.2.1/\z.2.2.1.length+z.2.1.length<=l.length/\z.2.2.1.flatten.length+z.2.1.length<=l.length/\∃V2,Sub V V2/\ay V2 z.1 z.2.1/\Pw zj V2 z.2.2.2.2.1 (kD z.2.2.1)/\Rel W V [.ax HU [iv (n:Nat),.bool k,z.1.v] 336,.row z.2.2.2.1 96 1 (z.2.2.2.2.1.flatMap cZ),.row z.2.2.2.2.2 3 1 ((nz (qn (aO n) 0 z.2.2.1.flatten)).flatMap cK),.ax b7 (iy n k z.2.2.2.1 z.2.2.2.2.2 false) 187,.ax b4 (iy 0 false ⟨none,0,0⟩ ⟨none,0,0⟩ false) 187,.ax b3 (Ay n k) 185] V2 w') (λz _=>z.2.1.length) (s,l,[],⟨none,0,0⟩,[],⟨none,0,0⟩) ?_;conv=>whnf
 refine⟨sB,⟨rfl,ai,ai,V,Sub.refl _,hs,Pw.nil,H⟩,?_⟩;clear H;rintro⟨q,u,R,rs,hh,qs⟩w⟨bF,rZ,Qg,V2,hV2,hq,hP,H⟩;dsimp only at bF rZ Qg hq hP H |-;have vr:=hq.len;have Aj:=hP.len;rw[bu]at Aj;by_cases hu:u.length=0
 ·have hu0:u=[]:=bL hu;have e:im (aO n) (cd k) l=some (R,false):=by rw[bF,hu0];rfl
  rw[e];have H1:=H.kh;clear H;obtain⟨V3,aw,H,hrs⟩:=Rel.aT H1 (λ_=>rfl) ag;have H2:=H.kh;clear H H1;obtain⟨V4,aG,H,jd⟩:=Rel.aT H2 (λ_=>rfl) ag;clear H2;refine H.wg ?_;clear H;intro w H;exact⟨V4,n,k,rs,qs,false,true,(hV2.trans aw).trans aG,H.sx,rfl,rfl,rfl,rfl,rfl,⟨hh,hrs.up aG,hP.up nb (aw.trans aG)⟩,jd⟩
 refine wk ?_;replace H:=H.cb 22 1;have H0:=H.kh;clear H;have H:=H0;clear H0;have e:im (aO n) (cd k) l=kA (aO n) (cd k) R [] u:=by rw[bF,uo,if_neg (λh=>hu (by rw[h];rfl))]
 clear bF;refine aY (S:=Sl×ad×List bG×Sl×List Sl×Sl) ah [0,1,3,4,6,7,26] (λz=>[(8,iv ((R.flatten.length+z.2.2.1.length:Nat):Int)),(9,z.2.2.2.1.v)]) (λz w'=>im (aO n) (cd k) l=kA (aO n) (cd k) R z.2.2.1 z.2.1/\z.2.1.length<=u.length/\R.flatten.length+z.2.2.1.length+z.2.1.length<=l.length/\∃V3,Sub V V3/\ay V3 z.1 z.2.1/\Pw zj V3 hh (kD R)/\Pw ju V3 z.2.2.2.2.1 (z.2.2.1.map Prod.fst)/\Rel W V [.ax HU [iv (n:Nat),.bool k,z.1.v] 336,.row z.2.2.2.1 22 1 (z.2.2.2.2.1.flatMap cZ),.row rs 96 1 (hh.flatMap cZ),.row z.2.2.2.2.2 3 1 ((nz (qn (aO n) 0 (R.flatten++z.2.2.1))).flatMap cK),.ax b7 (iy n k rs z.2.2.2.2.2 false) 187,.ax b4 (iy 0 false ⟨none,0,0⟩ ⟨none,0,0⟩ false) 187,.ax b3 (Ay n k) 185] V3 w') (λz _=>z.2.1.length) (q,u,[],⟨none,0,0⟩,[],qs) ?_;conv=>whnf
 refine⟨sB,⟨e,aK _,by simpa using Qg,V2,hV2,hq,hP,Pw.nil,by rw[cm];exact H⟩,?_⟩;clear H e hq hP hV2 vr V2;rintro⟨q,u2,r,cs,gs,qs⟩w⟨bF,tT,kj,V2,hV2,hq,hP,hG,H⟩;dsimp only at bF tT kj hq hP hG H |-;refine wk ?_;refine(Yd H (sV hT hV2) (hM.up hV2) hn hq aa).use ?_;rintro v w⟨V3,c,q2,f,g,aw,H2,rfl,hres⟩;clear H;have H:=H2;clear H2;have dP:=hV2.trans aw;have Fq:=hG.len;rw[bu]at Fq;cases hc:rN (aO n) u2 with
 | none =>
  rw[hc]at hres;obtain rfl:=hres;have e:im (aO n) (cd k) l=none:=by rw[bF,GD (by rw[TW,hc])]
  rw[e];refine H.wg ?_;clear H;intro w H;exact⟨V3,0,false,⟨none,0,0⟩,⟨none,0,0⟩,false,false,dP,H.sx,rfl,rfl⟩
 | some y =>
  obtain⟨⟨x,f⟩,t⟩:=y;rw[hc]at hres;obtain⟨rfl,rfl,tH,qK⟩:=hres;dsimp only at tH qK |-;have FA:=Yb hc;dsimp only at FA;have je:oE (aO n) u2=if t.head?=some 34 then none else some ((x,f),t):=by rw[TW,hc]
  have gg:=TR (s:=aO n) (c:=(x,f)) (r:=R.flatten++r) (k:=0);rw[bJ,dU,aq]at gg;dsimp only at gg;have eW:=TP (s:=aO n) (r:=R.flatten++r) (k:=0);rw[aq]at eW;have hnl:(nz (qn (aO n) 0 (R.flatten++r))).length=(qn (aO n) 0 (R.flatten++r)).length:=bu _;have Jh:Pw ju V3 (gs++[c]) ((r++[(x,f)]).map Prod.fst):=by rw[eZ];exact(hG.up (λ_ _ _ _ k h=>h.up k) aw).snoc tH
  have hP2:=hP.up nb aw;have J9:=qK.len;cases f with
  | false =>
   rw[yA,if_neg ag,cm]at gg;rw[<-gg]at H;refine H.wg ?_;clear H;intro _ w H;refine Rel.dI (f:=cZ) (s:=cs) (l:=gs) (x:=c) ah rfl rfl rfl rfl rfl ag (λ_=>rfl) (by simp[Value.oneCell']) H (by show(gs.length+1)*24<=_;omega) aa ?_;clear H;intro ie w H;have qx:Pw ju V3 (gs++[c]) ((r++[(x,false)]).map Prod.fst):=Jh;by_cases ht0:t.length=0
   ·have ht:t=[]:=bL ht0;have e:im (aO n) (cd k) l=some (R++[r++[(x,false)]],true):=by rw[bF,LY (by rw[je,ht];rfl)]
    rw[e];have H1:=H.kh;clear H;obtain⟨V4,aG,H,hcs⟩:=Rel.aT H1 (λ_=>rfl) ag;clear H1;refine wk ?_;refine H.nA ?_;clear H;intro w NK H;refine wk ?_;refine Rel.dI (f:=cZ) (s:=rs) (l:=hh) (x:=ie) ah rfl rfl rfl rfl rfl ag (λ_=>rfl) (by simp[Value.oneCell']) H (by show(hh.length+1)*24<=_;omega) aa ?_;clear H;intro fT w H;refine H.wg ?_;clear H;intro _ _ w H;have H1:=H.kh;clear H;obtain⟨V5,aQ,H,hrs⟩:=Rel.aT H1 (λ_=>rfl) ag;have H2:=H.kh;clear H H1;obtain⟨V6,cg,H,jd⟩:=Rel.aT H2 (λ_=>rfl) ag;refine⟨V6,n,k,fT,qs,true,true,((dP.trans aG).trans aQ).trans cg,H.sx,rfl,rfl,rfl,rfl,rfl,⟨hh++[ie],hrs.up cg,?_⟩,?_⟩
    ·rw[Be];exact(hP2.up nb ((aG.trans aQ).trans cg)).snoc ⟨gs++[c],hcs.up (aQ.trans cg),qx.up (λ_ _ _ _ k h=>h.up k) ((aG.trans aQ).trans cg)⟩
    ·rw[ph];exact jd
   refine wk ?_;(first|refine dV 15 [5] [0,1,2,3,4,5,6,7,8,9,10,11] H ?_|refine dV 18 [] [0,1,2,3,4,5,6,7,8,9] H ?_);clear H;intro w H;refine wk ?_;refine(B7 H.data n k).use ?_;rintro v w⟨V4,er,aG,K,rfl,kQ⟩;(replace H:=Rel.call H K);simp only[aA]at H;refine wk ?_;refine(BW H.data (qK.up aG) kQ).use ?_;rintro v w⟨⟨DI,rfl,CR⟩,K⟩;(replace H:=Rel.call H K);simp only[aA]at H;have hel:=Ha k;by_cases hpre:t.take (cd k).length=cd k
   ·rw[decide_eq_true hpre];have htl:=congrArg List.length hpre;rw[bb]at htl;have gb:t.head?≠some 34:=λh=>JC h hpre;have e:im (aO n) (cd k) l=uo (aO n) (cd k) (R++[r++[(x,false)]]) (t.drop (cd k).length):=by rw[bF,LZ (ru k) (by rw[je,if_neg gb]) hpre]
    have H1:=H.kh;clear H;obtain⟨V5,aQ,H,hcs⟩:=Rel.aT H1 (λ_=>rfl) ag;clear H1;refine wk ?_;refine H.nA ?_;clear H;intro w HW H;refine wk ?_;refine Rel.dI (f:=cZ) (s:=rs) (l:=hh) (x:=ie) ah rfl rfl rfl rfl rfl ag (λ_=>rfl) (by simp[Value.oneCell']) H (by show(hh.length+1)*24<=_;omega) aa ?_;clear H;intro fT w H;refine H.wg ?_;clear H;intro _ w H;refine⟨sB,(DI,t.drop (cd k).length,R++[r++[(x,false)]],fT,hh++[ie],qs),⟨?_,trivial⟩,⟨e,?_,?_,V5,(dP.trans aG).trans aQ,(CR hpre).up aQ,?_,?_⟩,?_⟩
    ·show some (Value.int .i64 _)=some (.int .i64 _);congr 2;simp only[ph,aq,av,aI];omega
    ·simp only[aq,av,aI,bd];omega
    ·simp only[ph,aq,av,aI,bd];omega
    ·rw[Be];exact(hP2.up nb (aG.trans aQ)).snoc ⟨gs++[c],hcs,qx.up (λ_ _ _ _ k h=>h.up k) (aG.trans aQ)⟩
    ·dsimp only;rw[ph];exact H
    ·simp only[bd];omega
   rw[decide_eq_false hpre];obtain⟨d,t2,rfl⟩:∃d t2,t=d::t2:=by
    cases t with
    | nil=>exact absurd rfl ht0
    | cons d t2=>exact⟨d,t2,rfl⟩
   rw[av]at J9 FA;obtain⟨p1,c1⟩:=(qK.up aG).aX (g:=bv) (i:=0) (λ_=>rfl) ai;change V4.cell? _=some (bv d)at c1;have hgs:=GZ hn;by_cases hd:d=aO n
   ·subst hd;have CB:aO n≠34:=(Bc n).2.1;have e:im (aO n) (cd k) l=kA (aO n) (cd k) R (r++[(x,false)]) t2:=by rw[bF,L5 (ru k) (by rw[je,if_neg (by rw[pS];simpa using CB)]) hpre]
    have pn:=(wo (qK.up aG) (i:=1) ai).2;rw[show List.drop 1 (aO n::t2)=t2 from rfl]at pn;refine wk ?_;(first|refine dV 15 [5] [0,1,2,3,4,5,6,7,8,9,10,11] H ?_|refine dV 18 [] [0,1,2,3,4,5,6,7,8,9] H ?_);clear H;intro w H;refine H.wg ?_;clear H;intro w H;refine⟨sB,(⟨aU q2.a 1 q2.cap 1,q2.len-1,q2.cap-1⟩,t2,r++[(x,false)],ie,gs++[c],qs),⟨?_,rfl,trivial⟩,⟨e,?_,?_,V4,dP.trans aG,pn,hP2.up nb aG,qx.up (λ_ _ _ _ k h=>h.up k) aG,H⟩,?_⟩
    ·show some (Value.int .i64 _)=some (.int .i64 _);congr 2;simp only[aq,av,aI];omega
    ·simp only;omega
    ·simp only[aq,av,aI];omega
    ·simp only;omega
   ·have JB:d.toNat≠(aO n).toNat:=λh=>hd (eF.1 h);have e:im (aO n) (cd k) l=none:=by
     rw[bF];by_cases gb:(d::t2).head?=some 34
     ·exact GD (by rw[je,if_pos gb])
     ·exact L6 (by rw[je,if_neg gb]) ai hpre (by rw[pS];simpa using hd)
    rw[e];refine wk ?_;(first|refine dV 15 [5] [0,1,2,3,4,5,6,7,8,9,10,11] H ?_|refine dV 18 [] [0,1,2,3,4,5,6,7,8,9] H ?_);clear H;intro w H;refine H.wg ?_;clear H;intro w H;exact⟨V4,0,false,⟨none,0,0⟩,⟨none,0,0⟩,false,false,dP.trans aG,H.sx,rfl,rfl⟩
  | true =>
   refine wk ?_;refine(KM H.data (sV hT dP) (hM.up dP) hn k tH aa).use ?_;rintro v w⟨rfl,K⟩;(replace H:=Rel.call H K);simp only[aA]at H;cases hN:eA (aO n) x with
   | true =>
    rw[hN,Bool.not_true,Bool.and_false,if_neg ag,cm]at gg;rw[<-gg]at H;refine H.wg ?_;clear H;intro _ w H;refine Rel.dI (f:=cZ) (s:=cs) (l:=gs) (x:=c) ah rfl rfl rfl rfl rfl ag (λ_=>rfl) (by simp[Value.oneCell']) H (by show(gs.length+1)*24<=_;omega) aa ?_;clear H;intro ie w H;have qx:Pw ju V3 (gs++[c]) ((r++[(x,true)]).map Prod.fst):=Jh;by_cases ht0:t.length=0
    ·have ht:t=[]:=bL ht0;have e:im (aO n) (cd k) l=some (R++[r++[(x,true)]],true):=by rw[bF,LY (by rw[je,ht];rfl)]
     rw[e];have H1:=H.kh;clear H;obtain⟨V4,aG,H,hcs⟩:=Rel.aT H1 (λ_=>rfl) ag;clear H1;refine wk ?_;refine H.nA ?_;clear H;intro w NK H;refine wk ?_;refine Rel.dI (f:=cZ) (s:=rs) (l:=hh) (x:=ie) ah rfl rfl rfl rfl rfl ag (λ_=>rfl) (by simp[Value.oneCell']) H (by show(hh.length+1)*24<=_;omega) aa ?_;clear H;intro fT w H;refine H.wg ?_;clear H;intro _ _ w H;have H1:=H.kh;clear H;obtain⟨V5,aQ,H,hrs⟩:=Rel.aT H1 (λ_=>rfl) ag;have H2:=H.kh;clear H H1;obtain⟨V6,cg,H,jd⟩:=Rel.aT H2 (λ_=>rfl) ag;refine⟨V6,n,k,fT,qs,true,true,((dP.trans aG).trans aQ).trans cg,H.sx,rfl,rfl,rfl,rfl,rfl,⟨hh++[ie],hrs.up cg,?_⟩,?_⟩
     ·rw[Be];exact(hP2.up nb ((aG.trans aQ).trans cg)).snoc ⟨gs++[c],hcs.up (aQ.trans cg),qx.up (λ_ _ _ _ k h=>h.up k) ((aG.trans aQ).trans cg)⟩
     ·rw[ph];exact jd
    refine wk ?_;(first|refine dV 15 [5] [0,1,2,3,4,5,6,7,8,9,10,11] H ?_|refine dV 18 [] [0,1,2,3,4,5,6,7,8,9] H ?_);clear H;intro w H;refine wk ?_;refine(B7 H.data n k).use ?_;rintro v w⟨V4,er,aG,K,rfl,kQ⟩;(replace H:=Rel.call H K);simp only[aA]at H;refine wk ?_;refine(BW H.data (qK.up aG) kQ).use ?_;rintro v w⟨⟨DI,rfl,CR⟩,K⟩;(replace H:=Rel.call H K);simp only[aA]at H;have hel:=Ha k;by_cases hpre:t.take (cd k).length=cd k
    ·rw[decide_eq_true hpre];have htl:=congrArg List.length hpre;rw[bb]at htl;have gb:t.head?≠some 34:=λh=>JC h hpre;have e:im (aO n) (cd k) l=uo (aO n) (cd k) (R++[r++[(x,true)]]) (t.drop (cd k).length):=by rw[bF,LZ (ru k) (by rw[je,if_neg gb]) hpre]
     have H1:=H.kh;clear H;obtain⟨V5,aQ,H,hcs⟩:=Rel.aT H1 (λ_=>rfl) ag;clear H1;refine wk ?_;refine H.nA ?_;clear H;intro w HW H;refine wk ?_;refine Rel.dI (f:=cZ) (s:=rs) (l:=hh) (x:=ie) ah rfl rfl rfl rfl rfl ag (λ_=>rfl) (by simp[Value.oneCell']) H (by show(hh.length+1)*24<=_;omega) aa ?_;clear H;intro fT w H;refine H.wg ?_;clear H;intro _ w H;refine⟨sB,(DI,t.drop (cd k).length,R++[r++[(x,true)]],fT,hh++[ie],qs),⟨?_,trivial⟩,⟨e,?_,?_,V5,(dP.trans aG).trans aQ,(CR hpre).up aQ,?_,?_⟩,?_⟩
     ·show some (Value.int .i64 _)=some (.int .i64 _);congr 2;simp only[ph,aq,av,aI];omega
     ·simp only[aq,av,aI,bd];omega
     ·simp only[ph,aq,av,aI,bd];omega
     ·rw[Be];exact(hP2.up nb (aG.trans aQ)).snoc ⟨gs++[c],hcs,qx.up (λ_ _ _ _ k h=>h.up k) (aG.trans aQ)⟩
     ·dsimp only;rw[ph];exact H
     ·simp only[bd];omega
    rw[decide_eq_false hpre];obtain⟨d,t2,rfl⟩:∃d t2,t=d::t2:=by
     cases t with
     | nil=>exact absurd rfl ht0
     | cons d t2=>exact⟨d,t2,rfl⟩
    rw[av]at J9 FA;obtain⟨p1,c1⟩:=(qK.up aG).aX (g:=bv) (i:=0) (λ_=>rfl) ai;change V4.cell? _=some (bv d)at c1;have hgs:=GZ hn;by_cases hd:d=aO n
    ·subst hd;have CB:aO n≠34:=(Bc n).2.1;have e:im (aO n) (cd k) l=kA (aO n) (cd k) R (r++[(x,true)]) t2:=by rw[bF,L5 (ru k) (by rw[je,if_neg (by rw[pS];simpa using CB)]) hpre]
     have pn:=(wo (qK.up aG) (i:=1) ai).2;rw[show List.drop 1 (aO n::t2)=t2 from rfl]at pn;refine wk ?_;(first|refine dV 15 [5] [0,1,2,3,4,5,6,7,8,9,10,11] H ?_|refine dV 18 [] [0,1,2,3,4,5,6,7,8,9] H ?_);clear H;intro w H;refine H.wg ?_;clear H;intro w H;refine⟨sB,(⟨aU q2.a 1 q2.cap 1,q2.len-1,q2.cap-1⟩,t2,r++[(x,true)],ie,gs++[c],qs),⟨?_,rfl,trivial⟩,⟨e,?_,?_,V4,dP.trans aG,pn,hP2.up nb aG,qx.up (λ_ _ _ _ k h=>h.up k) aG,H⟩,?_⟩
     ·show some (Value.int .i64 _)=some (.int .i64 _);congr 2;simp only[aq,av,aI];omega
     ·simp only;omega
     ·simp only[aq,av,aI];omega
     ·simp only;omega
    ·have JB:d.toNat≠(aO n).toNat:=λh=>hd (eF.1 h);have e:im (aO n) (cd k) l=none:=by
      rw[bF];by_cases gb:(d::t2).head?=some 34
      ·exact GD (by rw[je,if_pos gb])
      ·exact L6 (by rw[je,if_neg gb]) ai hpre (by rw[pS];simpa using hd)
     rw[e];refine wk ?_;(first|refine dV 15 [5] [0,1,2,3,4,5,6,7,8,9,10,11] H ?_|refine dV 18 [] [0,1,2,3,4,5,6,7,8,9] H ?_);clear H;intro w H;refine H.wg ?_;clear H;intro w H;exact⟨V4,0,false,⟨none,0,0⟩,⟨none,0,0⟩,false,false,dP.trans aG,H.sx,rfl,rfl⟩
   | false =>
    rw[hN,Bool.not_false,Bool.and_true,if_pos rfl]at gg;refine wk ?_;refine H.nA ?_;clear H;intro w uP H;refine wk ?_;refine Rel.Xv (f:=cK) (s:=qs) (l:=nz (qn (aO n) 0 (R.flatten++r))) (x:=((R.flatten.length+r.length:Nat):Int)) ah rfl rfl rfl rfl rfl ag (λ_=>rfl) (by simp[Value.oneCell']) H (by rw[hnl];show(_+1)*8<=_;omega) (by rw[hnl];omega) ?_;clear H;intro LO w H;rw[show nz (qn (aO n) 0 (R.flatten++r))++[((R.flatten.length+r.length:Nat):Int)]=nz (qn (aO n) 0 (R.flatten++(r++[(x,true)])))by rw[gg];simp]at H;refine H.wg ?_;clear H;intro _ _ w H;refine Rel.dI (f:=cZ) (s:=cs) (l:=gs) (x:=c) ah rfl rfl rfl rfl rfl ag (λ_=>rfl) (by simp[Value.oneCell']) H (by show(gs.length+1)*24<=_;omega) aa ?_;clear H;intro ie w H;have qx:Pw ju V3 (gs++[c]) ((r++[(x,true)]).map Prod.fst):=Jh;by_cases ht0:t.length=0
    ·have ht:t=[]:=bL ht0;have e:im (aO n) (cd k) l=some (R++[r++[(x,true)]],true):=by rw[bF,LY (by rw[je,ht];rfl)]
     rw[e];have H1:=H.kh;clear H;obtain⟨V4,aG,H,hcs⟩:=Rel.aT H1 (λ_=>rfl) ag;clear H1;refine wk ?_;refine H.nA ?_;clear H;intro w NK H;refine wk ?_;refine Rel.dI (f:=cZ) (s:=rs) (l:=hh) (x:=ie) ah rfl rfl rfl rfl rfl ag (λ_=>rfl) (by simp[Value.oneCell']) H (by show(hh.length+1)*24<=_;omega) aa ?_;clear H;intro fT w H;refine H.wg ?_;clear H;intro _ _ w H;have H1:=H.kh;clear H;obtain⟨V5,aQ,H,hrs⟩:=Rel.aT H1 (λ_=>rfl) ag;have H2:=H.kh;clear H H1;obtain⟨V6,cg,H,jd⟩:=Rel.aT H2 (λ_=>rfl) ag;refine⟨V6,n,k,fT,LO,true,true,((dP.trans aG).trans aQ).trans cg,H.sx,rfl,rfl,rfl,rfl,rfl,⟨hh++[ie],hrs.up cg,?_⟩,?_⟩
     ·rw[Be];exact(hP2.up nb ((aG.trans aQ).trans cg)).snoc ⟨gs++[c],hcs.up (aQ.trans cg),qx.up (λ_ _ _ _ k h=>h.up k) ((aG.trans aQ).trans cg)⟩
     ·rw[ph];exact jd
    refine wk ?_;(first|refine dV 15 [5] [0,1,2,3,4,5,6,7,8,9,10,11] H ?_|refine dV 18 [] [0,1,2,3,4,5,6,7,8,9] H ?_);clear H;intro w H;refine wk ?_;refine(B7 H.data n k).use ?_;rintro v w⟨V4,er,aG,K,rfl,kQ⟩;(replace H:=Rel.call H K);simp only[aA]at H;refine wk ?_;refine(BW H.data (qK.up aG) kQ).use ?_;rintro v w⟨⟨DI,rfl,CR⟩,K⟩;(replace H:=Rel.call H K);simp only[aA]at H;have hel:=Ha k;by_cases hpre:t.take (cd k).length=cd k
    ·rw[decide_eq_true hpre];have htl:=congrArg List.length hpre;rw[bb]at htl;have gb:t.head?≠some 34:=λh=>JC h hpre;have e:im (aO n) (cd k) l=uo (aO n) (cd k) (R++[r++[(x,true)]]) (t.drop (cd k).length):=by rw[bF,LZ (ru k) (by rw[je,if_neg gb]) hpre]
     have H1:=H.kh;clear H;obtain⟨V5,aQ,H,hcs⟩:=Rel.aT H1 (λ_=>rfl) ag;clear H1;refine wk ?_;refine H.nA ?_;clear H;intro w HW H;refine wk ?_;refine Rel.dI (f:=cZ) (s:=rs) (l:=hh) (x:=ie) ah rfl rfl rfl rfl rfl ag (λ_=>rfl) (by simp[Value.oneCell']) H (by show(hh.length+1)*24<=_;omega) aa ?_;clear H;intro fT w H;refine H.wg ?_;clear H;intro _ w H;refine⟨sB,(DI,t.drop (cd k).length,R++[r++[(x,true)]],fT,hh++[ie],LO),⟨?_,trivial⟩,⟨e,?_,?_,V5,(dP.trans aG).trans aQ,(CR hpre).up aQ,?_,?_⟩,?_⟩
     ·show some (Value.int .i64 _)=some (.int .i64 _);congr 2;simp only[ph,aq,av,aI];omega
     ·simp only[aq,av,aI,bd];omega
     ·simp only[ph,aq,av,aI,bd];omega
     ·rw[Be];exact(hP2.up nb (aG.trans aQ)).snoc ⟨gs++[c],hcs,qx.up (λ_ _ _ _ k h=>h.up k) (aG.trans aQ)⟩
     ·dsimp only;rw[ph];exact H
     ·simp only[bd];omega
    rw[decide_eq_false hpre];obtain⟨d,t2,rfl⟩:∃d t2,t=d::t2:=by
     cases t with
     | nil=>exact absurd rfl ht0
     | cons d t2=>exact⟨d,t2,rfl⟩
    rw[av]at J9 FA;obtain⟨p1,c1⟩:=(qK.up aG).aX (g:=bv) (i:=0) (λ_=>rfl) ai;change V4.cell? _=some (bv d)at c1;have hgs:=GZ hn;by_cases hd:d=aO n
    ·subst hd;have CB:aO n≠34:=(Bc n).2.1;have e:im (aO n) (cd k) l=kA (aO n) (cd k) R (r++[(x,true)]) t2:=by rw[bF,L5 (ru k) (by rw[je,if_neg (by rw[pS];simpa using CB)]) hpre]
     have pn:=(wo (qK.up aG) (i:=1) ai).2;rw[show List.drop 1 (aO n::t2)=t2 from rfl]at pn;refine wk ?_;(first|refine dV 15 [5] [0,1,2,3,4,5,6,7,8,9,10,11] H ?_|refine dV 18 [] [0,1,2,3,4,5,6,7,8,9] H ?_);clear H;intro w H;refine H.wg ?_;clear H;intro w H;refine⟨sB,(⟨aU q2.a 1 q2.cap 1,q2.len-1,q2.cap-1⟩,t2,r++[(x,true)],ie,gs++[c],LO),⟨?_,rfl,trivial⟩,⟨e,?_,?_,V4,dP.trans aG,pn,hP2.up nb aG,qx.up (λ_ _ _ _ k h=>h.up k) aG,H⟩,?_⟩
     ·show some (Value.int .i64 _)=some (.int .i64 _);congr 2;simp only[aq,av,aI];omega
     ·simp only;omega
     ·simp only[aq,av,aI];omega
     ·simp only;omega
    ·have JB:d.toNat≠(aO n).toNat:=λh=>hd (eF.1 h);have e:im (aO n) (cd k) l=none:=by
      rw[bF];by_cases gb:(d::t2).head?=some 34
      ·exact GD (by rw[je,if_pos gb])
      ·exact L6 (by rw[je,if_neg gb]) ai hpre (by rw[pS];simpa using hd)
     rw[e];refine wk ?_;(first|refine dV 15 [5] [0,1,2,3,4,5,6,7,8,9,10,11] H ?_|refine dV 18 [] [0,1,2,3,4,5,6,7,8,9] H ?_);clear H;intro w H;refine H.wg ?_;clear H;intro w H;exact⟨V4,0,false,⟨none,0,0⟩,⟨none,0,0⟩,false,false,dP.trans aG,H.sx,rfl,rfl⟩
end
theorem ME{l:ad}{x:List (List bG)×Bool}:∀ {n i:Nat},n<=6->6-n<=i->i<6->(∀j,6-n<=j->j<i->jr j l=none)->jr i l=some x->wD l n=some (i,x)
 | 0,i,_,h1,h2,_,_=>by omega
 | n+1,i,hn,h1,h2,h3,h4=>by
  unfold wD;by_cases e:i=5-n
  ·rw[<-e,h4]
  ·rw[h3 (5-n) aa aa];exact ME aa aa h2 (λj h5 h6=>h3 j aa h6) h4
theorem U0{l:ad}:∀ {n:Nat},n<=6->(∀j,6-n<=j->j<6->jr j l=none)->wD l n=none
 | 0,_,_=>rfl
 | n+1,hn,h=>by
  unfold wD;rw[h (5-n) aa aa];exact U0 aa λj h1 h2=>h j aa h2
section
variable{V W:ae}
theorem UO(hV:Sub V W)(n:Nat)(k o:Bool){rs qs:Sl}{R:List (List bG)}(hs:mX V rs (kD R))(hl:R.length<=100000):aC 233 [.agg (iy n k rs qs o).toArray] W λv w'=>v=.bool (rq k R o)/\Rel W V [] V w':=by
 have H:=Rel.start hV;have hlen:=hs.len;rw[bu]at hlen;refine eV Tryz.func233 32 [0,1,2] ?_;cases R with
 | nil =>
  have tN:rs.len=0:=hlen;rw[show rq k [] o=false by simp[rq]];clear hl hs hlen;refine wk ?_;refine H.nA ?_;clear H;intro w b1 H;conv=>whnf
  refine H.ce ?_;conv=>whnf
  refine cF ?_;conv=>whnf
  exact⟨rfl,H.sx⟩
 | cons r R =>
  rw[av]at hlen hl;obtain⟨xs,h1,h2⟩:=hs;have xo:=h2.len;rw[bu,av]at xo;obtain⟨p0,c0⟩:=h1.aX (g:=λx:Sl=>x.v) (λ_=>rfl) (i:=0) aa;obtain⟨gs,g1,g2⟩:=h2.all 0 (xs[0]'aa) (r.map Prod.fst) (a8 _) rfl;have I7:=g1.len;have I8:=g2.len;rw[bu]at I8;obtain⟨x,hx⟩:∃x,x=xs[0]'aa:=⟨_,rfl⟩
  rw[<-hx]at c0 I7;have e:rq k (r::R) o=(decide (2<=r.length)&&(!k||decide (1<(r::R).length)||!o)):=by simp[rq]
  rw[e,av];by_cases hr:2<=r.length
  ·rw[decide_eq_true hr,Bool.true_and];cases k with
   | false =>
    refine wk ?_;refine H.nA ?_;clear H;intro w b1 H;refine wk ?_;first|exact H.sx|exact⟨rfl,H.sx⟩
   | true =>
    by_cases hR:1<R.length+1
    ·rw[decide_eq_true hR];refine wk ?_;refine H.nA ?_;clear H;intro w b1 H;refine wk ?_;first|exact H.sx|exact⟨rfl,H.sx⟩
    ·rw[decide_eq_false hR];cases o with
     | true =>
      refine wk ?_;refine H.nA ?_;clear H;intro w b1 H;refine wk ?_;first|exact H.sx|exact⟨rfl,H.sx⟩
     | false =>
      refine wk ?_;refine H.nA ?_;clear H;intro w b1 H;refine wk ?_;first|exact H.sx|exact⟨rfl,H.sx⟩
  ·rw[decide_eq_false hr,yA];refine wk ?_;refine H.nA ?_;clear H;intro w b1 H;refine wk ?_;first|exact H.sx|exact⟨rfl,H.sx⟩
structure WN(W V:ae)(x:Option (Nat×List (List bG)×Bool))(v:ao)(w':ae):Prop where
 ex:∃(V':ae) (m:Nat) (j:Bool) (rs qs:Sl) (o g:Bool),Sub V V'/\Rel W V [] V' w'/\v=.tuple #[.agg (iy m j rs qs o).toArray,.bool g]/\(match x with
  | none=>g=false/\rs=⟨none,0,0⟩
  | some y=>g=true/\m=y.1/2/\j=gq y.1/\o=y.2.2/\mX V' rs (kD y.2.1)/\aB cK V' qs (nz (qn (aO (y.1/2)) 0 y.2.1.flatten)))
theorem ZP(hV:Sub V W)(hT:nW V)(hM:mV V){s:Sl}{l:ad}(hs:ay V s l)(hl:l.length<=1000):aC 151 [s.v] W (WN W V (wC l)):=by
 have H:=Rel.start hV;refine eV Tryz.func151 35 [0,2,3,4,6,7,8,9,10,12,13,14,15,30] ?_;refine wk ?_;refine H.nA ?_;clear H;intro w b2 H;refine wk ?_;refine aY (S:=Nat) ah [0,2] (λsp=>[(9,iv sp)]) (λsp w'=>sp<=3/\(∀j,j<2*sp->jr j l=none)/\∃V2,Sub V V2/\Rel W V [.ax b2 (iy 0 false ⟨none,0,0⟩ ⟨none,0,0⟩ false) 187] V2 w') (λsp _=>3-sp) 0 ?_;conv=>whnf
 refine⟨sB,⟨aa,λj h=>by omega,V,Sub.refl _,H⟩,?_⟩;clear H;rintro sp w⟨ajo,hno,V2,hV2,H⟩;by_cases hsp:sp<3;rotate_left
 ·have e:wC l=none:=U0 (aK _) λj _ h=>hno j aa;rw[e];refine H.wg ?_;clear H;intro w H;exact⟨V2,0,false,⟨none,0,0⟩,⟨none,0,0⟩,false,false,hV2,H.sx,rfl,rfl,rfl⟩
 refine wk ?_;refine H.nA ?_;clear H;intro w uO H;obtain⟨V4,aG,H2,hb⟩:=H.bt;clear H;have H:=H2;clear H2;have hB:∀ {V':ae},Sub V4 V'->di V' uO [.bool false,.bool true] 4:=λh=>h.bE _ _ _ _ hb;refine wk ?_;refine aY (S:=Nat) ah [0,2,4,9,10,12,13] (λj=>[(14,iv j)]) (λj w'=>j<=2/\(∀i,i<2*sp+j->jr i l=none)/\∃V2,Sub V V2/\Sub V4 V2/\Rel W V [.ax b2 (iy 0 false ⟨none,0,0⟩ ⟨none,0,0⟩ false) 187] V2 w') (λj _=>2-j) 0 ?_;conv=>whnf
 refine⟨sB,⟨aa,λi h=>hno i aa,V4,hV2.trans aG,Sub.refl _,H⟩,?_⟩;clear H hV2 hno aG V2;rintro j w⟨hj,hno,V2,hV2,Cu,H⟩;have lE:=hB Cu;have cb0:=lE.bE (i:=0) rfl;have cb1:=lE.bE (i:=1) rfl;obtain rfl|rfl|rfl:j=0\/j=1\/j=2:=aa
 ·have d2:(2*sp)/2=sp:=aa;have d3:gq (2*sp)=false:=by unfold gq;exact decide_eq_false aa
  refine wk ?_;refine(T7 H.data (sV hT hV2) (hM.up hV2) (n:=sp) hsp false (hs.up hV2) hl).use ?_;rintro v w⟨V3,m,jj,rs,qs,o,g,aw,K,rfl,hres⟩;(replace H:=Rel.call H K);simp only[aA]at H;have dP:=hV2.trans aw;refine wk ?_;refine H.nA ?_;clear H;intro w b7 H;cases hr:im (aO sp) (cd false) l with
  | none =>
   rw[hr]at hres;obtain rfl:=hres;have hone:jr (2*sp) l=none:=by unfold jr;rw[d2,d3,hr]
   refine H.wg ?_;clear H;intro w H;exact⟨sB,1,sB,⟨aa,λi h=>if e:i=2*sp then e▸hone else hno i aa,V3,dP,Cu.trans aw,H.sx⟩,aa⟩
  | some y =>
   obtain⟨R,op⟩:=y;rw[hr]at hres;obtain⟨rfl,hm,rfl,rfl,hrs,jd⟩:=hres;obtain rfl:sp=m:=hm.symm;obtain⟨q1,q2,q3⟩:=zV (s:=aO sp) (ru false) o R;rw[<-(LX hr).1]at q1 q3;refine H.wg ?_;clear H;intro w H;refine(UO H.data sp false o (qs:=qs) hrs aa).use ?_;rintro v w⟨rfl,K⟩;(replace H:=Rel.call H K);simp only[aA]at H;cases gh:rq false R o with
   | true =>
    have hone:jr (2*sp) l=some (R,o):=by unfold jr;rw[d2,d3,hr];simp only;rw[if_pos gh]
    have e:wC l=some (2*sp,R,o):=ME aa aa aa (λj _ h=>hno j aa) hone;rw[e];refine H.wg ?_;clear H;intro w H;exact⟨V3,sp,false,rs,qs,o,true,dP,H.sx,rfl,rfl,by rw[d2],by rw[d3],rfl,hrs,by rw[d2];exact jd⟩
   | false =>
    have hone:jr (2*sp) l=none:=by unfold jr;rw[d2,d3,hr];simp only;rw[if_neg (by rw[gh];decide)]
    refine wk ?_;exact⟨sB,1,sB,⟨aa,λi h=>if e:i=2*sp then e▸hone else hno i aa,V3,dP,Cu.trans aw,H.sx⟩,aa⟩
 ·have d2:(2*sp+1)/2=sp:=aa;have d3:gq (2*sp+1)=true:=by unfold gq;exact decide_eq_true aa
  refine wk ?_;refine(T7 H.data (sV hT hV2) (hM.up hV2) (n:=sp) hsp true (hs.up hV2) hl).use ?_;rintro v w⟨V3,m,jj,rs,qs,o,g,aw,K,rfl,hres⟩;(replace H:=Rel.call H K);simp only[aA]at H;have dP:=hV2.trans aw;refine wk ?_;refine H.nA ?_;clear H;intro w b7 H;cases hr:im (aO sp) (cd true) l with
  | none =>
   rw[hr]at hres;obtain rfl:=hres;have hone:jr (2*sp+1) l=none:=by unfold jr;rw[d2,d3,hr]
   refine H.wg ?_;clear H;intro w H;exact⟨sB,2,sB,⟨aa,λi h=>if e:i=2*sp+1 then e▸hone else hno i aa,V3,dP,Cu.trans aw,H.sx⟩,aa⟩
  | some y =>
   obtain⟨R,op⟩:=y;rw[hr]at hres;obtain⟨rfl,hm,rfl,rfl,hrs,jd⟩:=hres;obtain rfl:sp=m:=hm.symm;obtain⟨q1,q2,q3⟩:=zV (s:=aO sp) (ru true) o R;rw[<-(LX hr).1]at q1 q3;refine H.wg ?_;clear H;intro w H;refine(UO H.data sp true o (qs:=qs) hrs aa).use ?_;rintro v w⟨rfl,K⟩;(replace H:=Rel.call H K);simp only[aA]at H;cases gh:rq true R o with
   | true =>
    have hone:jr (2*sp+1) l=some (R,o):=by unfold jr;rw[d2,d3,hr];simp only;rw[if_pos gh]
    have e:wC l=some (2*sp+1,R,o):=ME aa aa aa (λj _ h=>hno j aa) hone;rw[e];refine H.wg ?_;clear H;intro w H;exact⟨V3,sp,true,rs,qs,o,true,dP,H.sx,rfl,rfl,by rw[d2],by rw[d3],rfl,hrs,by rw[d2];exact jd⟩
   | false =>
    have hone:jr (2*sp+1) l=none:=by unfold jr;rw[d2,d3,hr];simp only;rw[if_neg (by rw[gh];decide)]
    refine wk ?_;exact⟨sB,2,sB,⟨aa,λi h=>if e:i=2*sp+1 then e▸hone else hno i aa,V3,dP,Cu.trans aw,H.sx⟩,aa⟩
 ·refine wk ?_;exact⟨sB,sp+1,sB,⟨aa,λi h=>hno i aa,V2,hV2,H.sx⟩,aa⟩
end
theorem aej{l:List Int}(h:l.Pairwise (· < ·))(hne:l≠[]):∀a∈l,a<=l.getLast hne:=by
 intro a ha;obtain⟨i,x,rfl⟩:=ab0 (l:=l) λh=>hne (bL h);rw[ue]at h;have e:(i++[x]).getLast hne=x:=ai;rw[e];rcases cq.1 ha with ha|ha
 ·have:=h.2.2 a ha x ai;omega
 ·rw[cv.1 ha];exact Int.le_refl _
theorem SF:kr []:=⟨ai,List.Pairwise.nil⟩
theorem FY{l:List Int}(hi:i<l.length)(h:kr (l.take i))(h0:0<=l[i])(h1:l[i]<=1000)(h2:∀h:0<i,l[i-1]<l[i]):kr (l.take (i+1)):=by
 obtain⟨g1,g2⟩:=h;rw[bZ hi];refine⟨λn hn=>?_,ue.2 ⟨g2,List.pairwise_singleton _ _,λa ha b hb=>?_⟩⟩
 ·rcases cq.1 hn with hn|hn
  ·exact g1 n hn
  ·rw[cv.1 hn];exact⟨h0,h1⟩
 ·rw[cv.1 hb];have hne:l.take i≠[]:=List.ne_nil_of_mem ha;have py:0<i:=by
   rcases Nat.eq_zero_or_pos i with rfl|h
   ·exact absurd rfl hne
   ·exact h
  have:=aej g2 hne a ha;rw[List.getLast_eq_getElem]at this;simp only[bb,List.getElem_take]at this;have h3:=h2 py;have e:min i l.length-1=i-1:=aa;simp only[e]at this;omega
theorem SE{l:List Int}(hi:i<l.length)(h:l[i]<0\/1000<l[i]\/∃h:0<i,l[i]<=l[i-1]):¬kr l:=by
 rintro⟨h1,h2⟩;have:=h1 l[i] (cj hi);rcases h with h|h|⟨h0,h⟩
 ·omega
 ·omega
 ·have:=List.pairwise_iff_getElem.1 h2 (i-1) i aa hi aa;omega
abbrev BA(V:ae)(h:VH)(r:bg):Prop:=bV V h (vZ r)
theorem Ug:∀(V V':ae) (x:VH) (y:bg),Sub V V'->BA V x y->BA V' x y:=λ_ _ _ _ k h=>h.up k
theorem afO{gs:List Sl}{r:bg}(h1:aB cr V s (gs.map iZ))(h2:Pw ju V gs r):BA V ⟨3,0,⟨none,0,0⟩,⟨none,0,0⟩,s⟩ r :=
 .mk (gs.map iZ) rfl rfl (aB.nil _ _) (aB.nil _ _) h1 (by show(gs.map iZ).length=(r.map wV).length;rw[bu,bu,h2.len]) λi x p hx hp=>by
  have hp:(r.map wV)[i]?=some p:=hp;rw[eu]at hx hp;cases hg:gs[i]? with
  | none=>rw[hg]at hx;cases hx
  | some g =>
   cases hr:r[i]? with
   | none=>rw[hr]at hp;cases hp
   | some y =>
    rw[hg]at hx;rw[hr]at hp;cases hx;cases hp;exact y7 (h2.all i g y hg hr)
theorem ahj{hs:List VH}{T:jN}(h1:aB cr V s hs)(h2:Pw BA V hs T):bV V ⟨3,0,⟨none,0,0⟩,⟨none,0,0⟩,s⟩ (rA T) :=
 .mk hs rfl rfl (aB.nil _ _) (aB.nil _ _) h1 (by show hs.length=(T.map vZ).length;rw[h2.len,bu]) λi x p hx hp=>by
  have hp:(T.map vZ)[i]?=some p:=hp;rw[eu]at hp;cases hT:T[i]? with
  | none=>rw[hT]at hp;cases hp
  | some y =>
   rw[hT]at hp;cases hp;exact h2.all i x y hx hT
section
variable{V W:ae}
theorem S7(hV:Sub V W)(n:Nat)(k o:Bool){rs qs:Sl}{T:jN}(hs:mX V rs T)(hl:T.length<=100000)(hrl:∀r∈T,r.length<=100000):aC 152 [.agg (iy n k rs qs o).toArray] W λv w'=>∃(V':ae) (h:VH),Sub V V'/\Rel W V [] V' w'/\v=fb h/\bV V' h (rA T):=by
 have H:=Rel.start hV;have hlen:=hs.len;obtain⟨xs,h1,h2⟩:=hs;have xo:=h2.len;refine eV Tryz.func152 40 [0,1,2,3,5,6,8,11,12,13,14,18,19,20,21] ?_;refine wk ?_;refine H.nA ?_;clear H;intro w b1 H;refine wk ?_;refine H.nA ?_;clear H;intro w b2 H;refine wk ?_;refine H.nA ?_;clear H;intro w b3 H;refine H.wg ?_;clear H;intro w H;replace H:=H.cb 27 5;have H0:Rel W V [.row ⟨none,0,0⟩ 27 5 [],.ax b3 [iv 3,iv 0,.slice none 0 0,.slice none 0 0,.slice none 0 0] 27,.ax b2 (cr eR) 27,.ax b1 (iy n k rs qs o) 187] V w:=H.pick;clear H;have H:=H0;clear H0;refine aY (S:=Nat×Sl×List VH) ah [0,1,2,3,11,12] (λz=>[(13,iv z.1)]) (λz w'=>z.1<=T.length/\∃V2,Sub V V2/\Pw BA V2 z.2.2 (T.take z.1)/\Rel W V [.row z.2.1 27 5 (z.2.2.flatMap cr),.ax b3 [iv 3,iv 0,.slice none 0 0,.slice none 0 0,z.2.1.v] 27,.ax b2 (cr eR) 27,.ax b1 (iy n k rs qs o) 187] V2 w') (λz _=>T.length-z.1) (0,⟨none,0,0⟩,[]) ?_;conv=>whnf
 refine⟨sB,⟨aa,V,Sub.refl _,Pw.nil,H⟩,?_⟩;clear H;rintro⟨i,pr,hh⟩w⟨hi,V2,hV2,hP,H⟩;dsimp only at hi hP H |-;have Ji:=hP.len;rw[bb]at Ji;by_cases hlt:i<T.length;rotate_left
 ·obtain rfl:i=T.length:=aa;rw[fR]at hP;refine H.wg ?_;clear H;intro w H;obtain⟨V3,aw,H,hr⟩:=Rel.aT H (λ_=>rfl) ag;exact⟨V3,⟨3,0,⟨none,0,0⟩,⟨none,0,0⟩,pr⟩,hV2.trans aw,H.sx,rfl,ahj hr (hP.up Ug aw)⟩
 obtain⟨p0,c0⟩:=(h1.up hV2).aX (g:=λx:Sl=>x.v) (λ_=>rfl) (i:=i) aa;obtain⟨gs,g1,g2⟩:=h2.all i (xs[i]'aa) T[i] (a8 _) (a8 _);have ht:=bZ hlt;obtain⟨r,hr⟩:∃r,r=T[i]:=⟨_,rfl⟩
 obtain⟨x,hx⟩:∃x,x=xs[i]'aa:=⟨_,rfl⟩
 have aji:=hrl r (by rw[hr];exact cj hlt);rw[<-hr]at g2 ht;rw[<-hx]at c0 g1;have I7:=g1.len;have I8:=g2.len;refine wk ?_;refine H.nA ?_;clear H;intro w b6 H;refine H.wg ?_;clear H;intro w H;replace H:=H.cb 27 5;refine aY (S:=Nat×Sl) ah [0,1,2,3,5,6,11,12,13,14,18,19] (λz=>[(20,iv z.1)]) (λz w'=>z.1<=r.length/\Rel W V [.row z.2 27 5 (((gs.take z.1).map iZ).flatMap cr),.ax b6 [iv 3,iv 0,.slice none 0 0,.slice none 0 0,z.2.v] 27,.row pr 27 5 (hh.flatMap cr),.ax b3 [iv 3,iv 0,.slice none 0 0,.slice none 0 0,pr.v] 27,.ax b2 (cr eR) 27,.ax b1 (iy n k rs qs o) 187] V2 w') (λz _=>r.length-z.1) (0,⟨none,0,0⟩) ?_;conv=>whnf
 refine⟨sB,⟨aa,H⟩,?_⟩;clear H;rintro⟨j,p2⟩w⟨hj,H⟩;dsimp only at hj H |-;by_cases gT:j<r.length
 ·obtain⟨p1,c1⟩:=(g1.up hV2).aX (g:=λx:Sl=>x.v) (λ_=>rfl) (i:=j) aa;obtain⟨g,hg⟩:∃g,g=gs[j]'aa:=⟨_,rfl⟩
  have QO:=bZ (l:=gs) (i:=j) aa;rw[<-hg]at c1 QO;have mw:((gs.take j).map iZ).length=j:=by rw[bu,bb];omega
  refine wk ?_;refine H.nA ?_;clear H;intro w b28 H;refine wk ?_;refine Rel.dC (f:=cr) (s:=p2) (l:=(gs.take j).map iZ) (x:=iZ g) ah rfl rfl rfl rfl rfl ag (λ_=>rfl) (by simp[Value.oneCell']) H (by rw[mw];show(j+1)*88<=_;omega) (by rw[mw];omega) ?_;clear H;intro p3 w H;rw[show(gs.take j).map iZ++[iZ g]=(gs.take (j+1)).map iZ by rw[QO,eZ];rfl]at H;refine H.wg ?_;clear H;intro w H;exact⟨sB,(j+1,p3),sB,⟨by dsimp only;omega,H⟩,by dsimp only;omega⟩
 ·rw[bR aa]at H;obtain⟨V3,aw,H,qH⟩:=Rel.aT H (λ_=>rfl) ag;refine wk ?_;refine H.nA ?_;clear H;intro w b35 H;refine wk ?_;refine Rel.dI (f:=cr) (s:=pr) (l:=hh) (x:=⟨3,0,⟨none,0,0⟩,⟨none,0,0⟩,p2⟩) ah rfl rfl rfl rfl rfl ag (λ_=>rfl) (by simp[Value.oneCell']) H (by show(hh.length+1)*88<=_;omega) aa ?_;clear H;intro pr2 w H;refine H.wg ?_;clear H;intro w H;refine⟨sB,(i+1,pr2,hh++[⟨3,0,⟨none,0,0⟩,⟨none,0,0⟩,p2⟩]),sB,⟨by dsimp only;omega,V3,hV2.trans aw,?_,H.sx⟩,by dsimp only;omega⟩;dsimp only;rw[ht];exact(hP.up Ug aw).snoc (afO qH (g2.up (λ_ _ _ _ k h=>h.up k) (hV2.trans aw)))
theorem IW(hV:Sub V W){n:Nat}(hn:n<3)(k o:Bool)(rs qs:Sl):aC 234 [.agg (iy n k rs qs o).toArray] W λv w'=>v=iv (jI n k o:Nat)/\Rel W V [] V w':=by
 have H:=Rel.start hV;refine eV Tryz.func234 17 [0,1,2,3,9,13] ?_;cases k<;>cases o
 all_goals
  refine wk ?_;refine H.nA ?_;clear H;intro w b1 H;refine wk ?_;first|exact H.sx|exact⟨rfl,H.sx⟩
theorem afJ(hV:Sub V W){n:Nat}(hn:n<3)(k o:Bool)(rs:Sl){qs:Sl}{Z:au}(jd:aB cK V qs (nz Z))(ni:Z.length<=1000)(hZ:∀n∈Z,n<=1000):aC 153 [.agg (iy n k rs qs o).toArray] W λv w'=>∃(V':ae) (r:Sl),Sub V V'/\Rel W V [] V' w'/\v=r.v/\ay V' r (lY (jI n k o) Z):=by
 have H:=Rel.start hV;have eW:=jd.len;rw[bu]at eW;obtain⟨f1,_⟩:=Hb (n:=n) aa k o;refine eV Tryz.func153 19 [0,1,2,11] ?_;refine wk ?_;refine H.nA ?_;clear H;intro w b1 H;refine wk ?_;refine(IW H.data hn k o rs qs).use ?_;rintro v w⟨rfl,K⟩;(replace H:=Rel.call H K);simp only[aA]at H;by_cases h0:jI n k o=0/\Z=[]
 ·have e:lY (jI n k o) Z=[]:=by unfold lY;rw[if_pos h0]
  obtain⟨h1,h2⟩:=h0;have h3:Z.length=0:=by rw[h2];rfl
  rw[e];refine wk ?_;exact⟨V,⟨none,0,0⟩,Sub.refl _,H.sx,rfl,aB.nil _ _⟩
 have e:lY (jI n k o) Z=aM (jI n k o:Nat)++bY aM (nz Z):=by unfold lY;rw[if_neg h0]
 rw[e];have hpl:=Tc (Z:=Z) ni hZ;have hpn:=fj (n:=((jI n k o:Nat):Int)) aa aa;by_cases h1:jI n k o=0
 ·have h3:Z.length≠0:=λq=>h0 ⟨h1,bL q⟩;refine wk ?_;refine dV 3 [1,2] [0,3,4,1,2,5,6,7] H ?_;clear H;intro w H;refine wk ?_;refine(IW H.data hn k o rs qs).use ?_;rintro v w⟨rfl,K⟩;(replace H:=Rel.call H K);simp only[aA]at H;refine wk ?_;refine(iQ (n:=((jI n k o:Nat):Int)) H.data (by constructor<;>omega)).use ?_;rintro v w⟨r1,rfl,K⟩;(replace H:=Rel.call H K);simp only[aL,aA]at H;refine wk ?_;refine(DS (l:=nz Z) (enc:=aM) H.data jd (λz hz=>Dr z ?_) (by rw[bu];omega) aa).use ?_
  ·obtain⟨m,hm,rfl⟩:=cG.1 hz;have:=hZ m hm;constructor<;>omega
  rintro v w⟨r2,rfl,K⟩;(replace H:=Rel.call H K);simp only[aL,aA]at H;refine wk ?_;refine Rel.dD H (i:=0) rfl aa ?_;clear H;intro rn w H;simp only[bC]at H;obtain⟨V3,aw,H,cL⟩:=Rel.aT H (λ_=>rfl) ag;refine wk ?_;exact⟨V3,rn,aw,H.sx,rfl,cL⟩
 ·refine wk ?_;refine dV 3 [1,2] [0,3,4,1,2,5,6,7] H ?_;clear H;intro w H;refine wk ?_;refine(IW H.data hn k o rs qs).use ?_;rintro v w⟨rfl,K⟩;(replace H:=Rel.call H K);simp only[aA]at H;refine wk ?_;refine(iQ (n:=((jI n k o:Nat):Int)) H.data (by constructor<;>omega)).use ?_;rintro v w⟨r1,rfl,K⟩;(replace H:=Rel.call H K);simp only[aL,aA]at H;refine wk ?_;refine(DS (l:=nz Z) (enc:=aM) H.data jd (λz hz=>Dr z ?_) (by rw[bu];omega) aa).use ?_
  ·obtain⟨m,hm,rfl⟩:=cG.1 hz;have:=hZ m hm;constructor<;>omega
  rintro v w⟨r2,rfl,K⟩;(replace H:=Rel.call H K);simp only[aL,aA]at H;refine wk ?_;refine Rel.dD H (i:=0) rfl aa ?_;clear H;intro rn w H;simp only[bC]at H;obtain⟨V3,aw,H,cL⟩:=Rel.aT H (λ_=>rfl) ag;refine wk ?_;exact⟨V3,rn,aw,H.sx,rfl,cL⟩
theorem Vg(hV:Sub V W)(hT:nW V)(hM:mV V){s:Sl}{l:ad}(hs:ay V s l)(hl:l.length<=1099511627776):aC 64 [s.v] W (l9 W V (br (gE l) l.length)):=by
 have H:=Rel.start hV;have hlen:=hs.len;refine eV Tryz.func64 34 [0,2,3,4,5,6,7,10,27] ?_;refine wk ?_;refine H.nA ?_;clear H;intro w b2 H;refine wk ?_;refine H.nA ?_;clear H;intro w b4 H;by_cases hbig:1000<l.length
 ·have e:br (gE l) l.length=⟨zeroV,[],3, -1⟩:=by unfold br;rw[if_pos hbig]
  rw[e];refine wk ?_;refine(rT H.data 3 (-1)).use ?_;rintro v w⟨rfl,K⟩;(replace H:=Rel.call H K);simp only[aA]at H;refine H.wg ?_;clear H;intro _ w H;exact⟨V,eR,⟨none,0,0⟩,Sub.refl _,H.sx,rfl,lu _,aB.nil _ _⟩
 refine wk ?_;refine(ZP H.data hT hM hs aa).use ?_;rintro v w⟨V2,m,j,rs,qs,o,g,hV2,K,rfl,hres⟩;(replace H:=Rel.call H K);simp only[aA]at H;refine wk ?_;refine H.nA ?_;clear H;intro w b5 H;cases hf:wC l with
 | none =>
  rw[hf]at hres;obtain⟨rfl,rfl⟩:=hres;have e:br (gE l) l.length=⟨zeroV,[],21, -1⟩:=by unfold br;rw[if_neg hbig,gE,hf]
  rw[e];refine H.wg ?_;clear H;intro w H;refine(S7 H.data m j o (qs:=qs) (mX.nil _) ai ai).use ?_;rintro v w⟨V3,h,aw,K,rfl,hv⟩;(replace H:=Rel.call H K);simp only[aA]at H;refine wk ?_;refine H.nA ?_;clear H;intro w b7 H;refine H.wg ?_;clear H;intro w H;refine(rT H.data 21 (-1)).use ?_;rintro v w⟨rfl,K⟩;(replace H:=Rel.call H K);simp only[aA]at H;refine H.wg ?_;clear H;intro _ w H;exact⟨V3,eR,⟨none,0,0⟩,hV2.trans aw,H.sx,rfl,lu _,aB.nil _ _⟩
 | some y =>
  obtain⟨i,R,op⟩:=y;rw[hf]at hres;obtain⟨rfl,rfl,rfl,rfl,hrs,jd⟩:=hres;dsimp only at hrs jd |-;have F:=UZ hf;have hi:=F.lt;obtain⟨q1,q2,q3⟩:=zV (s:=aO (i/2)) (ru (gq i)) o R;rw[<-F.eq]at q1 q2 q3;have hrl:∀r∈kD R,r.length<=100000:=λr hr=>by
   obtain⟨x,hx,rfl⟩:=cG.1 hr;have:=KG hx;rw[bu];omega
  have Jo:VB 1048576 (rA (kD R)):=We (by simp;omega) λa ha=>⟨Nat.le_trans (hrl a ha) ag,λy hy=>by
   obtain⟨x,hx,rfl⟩:=cG.1 ha;obtain⟨c,hc,rfl⟩:=cG.1 hy;have:=q2 x hx c hc;omega⟩
  have hto:gE l=DW i R o:=by unfold gE;rw[hf]
  refine H.wg ?_;clear H;intro w H;refine(S7 H.data (i/2) (gq i) o (qs:=qs) hrs (by simp;omega) hrl).use ?_;rintro v w⟨V3,h,aw,K,rfl,hv⟩;(replace H:=Rel.call H K);simp only[aA]at H;refine wk ?_;refine H.nA ?_;clear H;intro w b7 H;refine H.wg ?_;clear H;intro w H;refine(qe H.data hv Jo).use ?_;rintro q w⟨rfl,K⟩;(replace H:=Rel.call H K);simp only[aA]at H;by_cases bP:(bI (rA (kD R))).1=0;rotate_left
  ·have e:br (gE l) l.length=⟨zeroV,[],21, -1⟩:=by unfold br;rw[if_neg hbig,hto];unfold DW;rw[if_neg bP]
   rw[e];refine wk ?_;refine(rT H.data 21 (-1)).use ?_;rintro v w⟨rfl,K⟩;(replace H:=Rel.call H K);simp only[aA]at H;refine H.wg ?_;clear H;intro _ w H;exact⟨V3,eR,⟨none,0,0⟩,hV2.trans aw,H.sx,rfl,lu _,aB.nil _ _⟩
  have e:br (gE l) l.length=⟨rA (kD R),lY (jI (i/2) (gq i) o) (qn (aO (i/2)) 0 R.flatten),0,0⟩:=by unfold br;rw[if_neg hbig,hto];unfold DW;rw[if_pos bP]
  rw[e,oQ bP];have hqf:=GA (s:=aO (i/2)) (e:=cd (gq i)) o R 0;rw[<-F.eq]at hqf;have hok:=KW (s:=aO (i/2)) (cs:=R.flatten) aa;refine wk ?_;refine dV 7 [2] [0,1,3,2,4,5,6] H ?_;clear H;intro w H;refine wk ?_;refine(afJ H.data aa (gq i) o rs (jd.up aw) aa (λn hn=>?_)).use ?_
  ·have:=hok.1 (n:Int) (cG.2 ⟨n,hn,rfl⟩);omega
  rintro v w⟨V4,r2,aG,K,rfl,hr2⟩;(replace H:=Rel.call H K);simp only[aA]at H;refine H.wg ?_;clear H;intro _ w H;exact⟨V4,_,r2,(hV2.trans aw).trans aG,H.sx,rfl,hv.up aG,hr2⟩
end
section
open Go Go.RowKit Go.ChangeShapes Go.WideShapes Go.ChangeAt
section
variable{H:Type}{enc:TypeId×ao->H}{P:Program}{W W':ae}
theorem ym{α β:Type}{f g:α->Option β}:∀ {l:List α} {ys:List β},(∀a∈l,∀y,f a=some y->g a=some y)->l.mapM f=some ys->l.mapM g=some ys
 | [],ys,_,h=>by simpa using h
 | a::l,ys,hk,h=>by
  rw[LH]at h |-;cases hf:f a with
  | none=>simp[hf]at h
  | some y =>
   cases hl:l.mapM f with
   | none=>simp[hf,hl]at h
   | some zs =>
    rw[hk a ai y hf,ym (λb hb=>hk b (by simp[hb])) hl];rw[hf,hl]at h;exact h
theorem mapM_mem{α β:Type}{f:α->Option β}:∀ {l:List α} {ys:List β},l.mapM f=some ys->∀a∈l,∃y,f a=some y
 | [],_,_,a,ha=>by simp at ha
 | b::l,ys,h,a,ha=>by
  rw[LH]at h;cases hf:f b with
  | none=>simp[hf]at h
  | some y =>
   cases hl:l.mapM f with
   | none=>simp[hf,hl]at h
   | some zs =>
    rcases bB.1 ha with rfl|ha
    ·exact⟨y,hf⟩
    ·exact mapM_mem hl a ha
theorem Yc(hbl:∀k,k<W.heap.size->W'.heap[k]?=W.heap[k]?){a:Addr}{v:ao}(h:W.cell? a=some v):W'.cell? a=some v:=by
 rw[World.cell?_of_block (hbl _ (World.block_lt_of_cell? _ _ h))];exact h
theorem Yf(hbl:∀k,k<W.heap.size->W'.heap[k]?=W.heap[k]?){b:Nat}{a:Addr}{n:Nat}{cs:aD}(h:W.cells? b a n=some cs):W'.cells? b a n=some cs:=by
 unfold World.cells? at h |-;split at h
 ·rename_i hb;rw[if_pos hb];exact ym (λi _ y hy=>Yc hbl hy) h
 ·cases h
theorem block_add(a:Addr)(n:Nat):(a.add n).block=a.block:=by unfold Addr.add;split<;>rfl
def BU(P:Program):Bool:=(List.range P.types.size).all λt=>match P.underlying t with
 | some (.pointer e)=>decide (e<P.types.size)
 | some (.slice e)=>decide (e<P.types.size)&&decide (0<P.cellsOf e)
 | some (.struct fs)=>fs.all λf=>decide (f.type<P.types.size)
 | some (.array _ e)=>decide (e<P.types.size)
 | some (.map _ e)=>decide (e<P.types.size)
 | _=>true
theorem Yv(h:BU P=true){t:TypeId}(ht:t<P.types.size):(match P.underlying t with
 | some (.pointer e)=>decide (e<P.types.size)
 | some (.slice e)=>decide (e<P.types.size)&&decide (0<P.cellsOf e)
 | some (.struct fs)=>fs.all λf=>decide (f.type<P.types.size)
 | some (.array _ e)=>decide (e<P.types.size)
 | some (.map _ e)=>decide (e<P.types.size)
 | _=>true)=true:=bj.1 h t (sN.2 ht)
theorem ahJ(hbl:∀k,k<W.heap.size->W'.heap[k]?=W.heap[k]?)(hpos:BU P=true){sp:Nat->Bool}(hsp:∀b,b<W.heap.size->sp b=true):∀(n:Nat) (t:TypeId) (cs:aD) (x:DataW H×List MemPlace),t<P.types.size ->
  DataW.trod enc P W 0 (λ_=>true) true n t cs=some x->DataW.trod enc P W' 0 sp true n t cs=some x:=by
 intro n;induction n with
 | zero=>intro t cs x ht h;simp[DataW.trod]at h
 | succ n ih =>
  intro t cs x ht h;have hcl:=Yv hpos ht;have hel:∀(a:Addr) (m:Nat) (e:TypeId) (y:DataW H×List MemPlace),e<P.types.size->(W.cells? 0 a m).bind (DataW.trod enc P W 0 (λ_=>true) true n e)=some y->(W'.cells? 0 a m).bind (DataW.trod enc P W' 0 sp true n e)=some y:=by
   intro a m e y he hy;obtain⟨c,hc,hy⟩:=Gs.1 hy;rw[Yf hbl hc];exact ih e c y he hy
  unfold DataW.trod at h |-;split at h
  case h_6 e a hu =>
   obtain⟨y,hy,rfl⟩:=il.1 h;simp only[hu,decide_eq_true_eq]at hcl;simp only[hel _ _ _ _ hcl hy,gA]
  case h_8 e a len cap hu =>
   simp only[hu,dM,decide_eq_true_eq]at hcl;obtain⟨mq,hcp⟩:=hcl;simp only[];split at h
   ·rename_i hcond;rw[if_pos hcond];obtain⟨elems,he,h⟩:=Gs.1 h;simp only[if_true]at h;obtain⟨rest,hr,hx⟩:=il.1 h;rw[ym (λi _ y hy=>hel _ _ _ _ mq hy) he];simp only[Gy];by_cases hs:sp a.block=true
    ·rw[if_pos hs,ym (λi _ y hy=>hel _ _ _ _ mq hy) hr];simp only[gA,hx]
    ·have h0:cap-len=0:=by
      refine Decidable.byContradiction λhne=>hs (hsp _ ?_);obtain⟨y,hy⟩:=mapM_mem hr 0 (sN.2 aa);obtain⟨c,hc,_⟩:=Gs.1 hy;unfold World.cells? at hc;rw[if_pos (cu _)]at hc;obtain⟨v,hv⟩:=mapM_mem hc 0 (sN.2 hcp);have:=World.block_lt_of_cell? _ _ hv;rwa [block_add,block_add]at this
     rw[if_neg hs];rw[h0]at hr;have eK:rest=[]:=by simpa using hr.symm
     subst eK;simp only[gA,hx]
   ·cases h
  case h_9 =>
   rename_i fs hu;have hcl':∀f∈fs.toList,f.type<P.types.size:=by
    rw[hu]at hcl;intro f hf;have:=Array.all_eq_true'.1 hcl f (by simpa using hf);simpa using this
   split at h
   ·rename_i hc;rw[if_pos hc];obtain⟨ys,hy,rfl⟩:=il.1 h;rw[ym (λi hi y hy=>ih _ _ _ (hcl' i hi) hy) hy];rfl
   ·cases h
  case h_10 =>
   rename_i m e hu;have hcl':e<P.types.size:=by
    rw[hu]at hcl;simpa using hcl
   split at h
   ·rename_i hc;rw[if_pos hc];obtain⟨ys,hy,rfl⟩:=il.1 h;rw[ym (λi _ y hy=>ih _ _ _ hcl' hy) hy];rfl
   ·cases h
  case h_14 k e b hu =>
   simp only[hu,decide_eq_true_eq]at hcl;simp only[];split at h
   ·rename_i es clock hb;have hlt:=(Array.getElem?_eq_some_iff.1 hb).1;rw[hbl b hlt,hb];simp only;split at h
    ·rename_i hc;rw[if_pos hc];obtain⟨aiW,he,h⟩:=Gs.1 h;rw[ym (λq _ y hy=>?_) he]
     ·exact h
     ·obtain⟨key,hk,hy⟩:=Gs.1 hy;simp only[hk,Gy];split at hy
      ·rename_i hf;rw[if_pos hf];obtain⟨z,hz,rfl⟩:=il.1 hy;rw[ih _ _ _ hcl hz];rfl
      ·cases hy
    ·cases h
   ·cases h
  all_goals first
   | exact h
   | (cases h;done)
   | (rename_i hu;simp only[hu];exact h)
   | (rename_i hu _;simp only[hu];exact h)
theorem Vq(hbl:∀k,k<W.heap.size->W'.heap[k]?=W.heap[k]?)(hpos:BU P=true){sp:Nat->Bool}(hsp:∀b,b<W.heap.size->sp b=true):∀ {ts:List TypeId} {vs:aD} {ds:List (DataW H)} {ps:List MemPlace},(∀t∈ts,t<P.types.size) ->
  DataW.TrodAll enc P W 0 (λ_=>true) true ts vs ds ps->DataW.TrodAll enc P W' 0 sp true ts vs ds ps
 | [],[],[],_,_,h=>h
 | t::ts,v::vs,d::ds,ps,ht,⟨p,q,⟨n,h1⟩,h2,e⟩=>⟨p,q,⟨n,ahJ hbl hpos hsp n t _ _ (ht t ai) h1⟩,Vq hbl hpos hsp (λu hu=>ht u (by simp[hu])) h2,e⟩
 | [],[],_::_,_,_,h=>h.elim
 | [],_::_,_,_,_,h=>by cases ‹List (DataW H)›<;>exact h.elim
 | _::_,[],_,_,_,h=>by cases ‹List (DataW H)›<;>exact h.elim
 | _::_,_::_,[],_,_,h=>h.elim
theorem abW{may:MemPlace->Prop}(hE:Ext W W'):W.keptBut W' may:=by
 refine⟨hE.os,hE.output,λi hi=>?_⟩;rw[hE.block i hi];split
 ·rename_i c t fr c' t' fr' h1 h2;rw[h1]at h2;cases h2;exact⟨rfl,rfl,rfl,λ_ _=>rfl⟩
 ·rename_i es cl B8 cl' h1 h2;rw[h1]at h2;cases h2;exact .inr ⟨rfl,rfl⟩
 ·rfl
theorem ab2{f:Func}{s:ChangeSpec}{apart:Bool}{args:Array ao}{v:ao}{ds gs:List (DataW H)}{before:List MemPlace}(hW:DataW.Whole enc P f.params.toList s.vars apart W args.toList ds gs before)(hvars:s.vars=[])
  (hE:Ext W W') (hpos:BU P=true) (hpar:(f.params.toList.all λt=>decide (t<P.types.size))=true) {tb:TypeId} (hres:f.resultTypes=#[tb]) (htb:P.underlying tb=some .bool) (hv:v=.bool true)
  (hfn:s.fn H (ds++gs)={ results:=[.lit (.bool true)],args:=ds }):s.post enc P f apart true false false W args v W':=by
 subst hv;have Jp:=hW;obtain⟨p,q,hA,hV,rfl,_,_⟩:=hW;rw[hvars]at hV;obtain⟨rfl,rfl⟩:=trodVars_none hV;refine⟨ds,[],p++[],[],p,[],Jp,?_,?_,?_,abW hE,λh=>by cases h⟩
 ·rw[hfn,hres];exact trodAll_cons_mk (shut_bool htb true) trodAll_mk0
 ·rw[hfn];exact Vq hE.block hpos (λb hb=>by simpa using hb) (λt ht=>by simpa using bj.1 hpar t ht) hA
 ·rw[hfn,hvars];exact rfl
theorem X1(k:IntKind)(l:List Int):Rows.uptoBulkAll (lits (H:=H) k l)=l.length:=by
 induction l with
 | nil=>rfl
 | cons x l ih =>
  simp only[lits,List.map_cons,Rows.uptoBulkAll,Rows.uptoBulk,av]at ih |-;omega
theorem adu{t e:TypeId}(ht:P.underlying t=some (.slice e))(he:P.underlying e=some (.int .u8))(hc:P.cellsOf e=1){r:Reach}{b0:Nat}{v:ao}{d:DataW H}{ps:List MemPlace}
  (hval:Value.okWide P W r b0 t v) (hd:DataW.Trod enc P W 0 (λ_=>true) true t v d ps):∃(s:Sl) (l:ad),v=s.v/\By W s l/\l.length<=Rows.uptoBulk d:=by
 obtain⟨a,len,cap,rfl⟩:=okWide_slice ht hval;obtain⟨fuel,hf⟩:=hd;rcases open_ints ht he hc hf with⟨h1,h2⟩|⟨a',ajt,aiT,zs,h1,_,hle,ajd,ov,hx,hcell,hwf⟩
 ·simp only[Value.cells,List.cons.injEq,Value.slice.injEq,and_true]at h1;obtain⟨rfl,rfl,rfl⟩:=h1;exact⟨⟨none,0,0⟩,[],rfl,⟨rfl,⟨λh=>absurd rfl h,λj v hj=>by simp at hj⟩,aK _⟩,cu _⟩
 ·simp only[Value.cells,List.cons.injEq,Value.slice.injEq,and_true]at h1;obtain⟨rfl,rfl,rfl⟩:=h1;simp only[if_true]at ov;simp only[Prod.mk.injEq]at hx;obtain⟨rfl,_⟩:=hx;have hb:∀n∈zs,0<=n/\n<256:=by
   intro n hn;have:=hwf n hn;simp only[Lit.wf,dM,decide_eq_true_eq]at this;have h1:IntKind.u8.min=0:=ag;have h2:IntKind.u8.max=255:=ag;omega
  have hbv:∀n,0<=n->n<256->bv (UInt8.ofNat n.toNat)=.int .u8 n:=by
   intro n h0 h1;simp only[bv,jl];congr 1;omega
  refine⟨⟨some a',len,cap⟩,(zs.take len).map λn=>UInt8.ofNat n.toNat,rfl,⟨by simp;omega,?_,hle⟩,?_⟩
  ·have hj:∀(j:Nat) (v:ao),(((zs.take len).map λn=>UInt8.ofNat n.toNat).map bv)[j]?=some v->W.cell? (a'.add j)=some v:=by
    intro j v hv;simp only[List.map_map,eu,il,Function.comp]at hv;obtain⟨n,hn,rfl⟩:=hv;rw[AU]at hn;split at hn
    ·have hmem:=fH hn;have hlt:=(List.getElem?_eq_some_iff.1 hn).1;have:=hcell j hlt;rw[hbv n (hb n hmem).1 (hb n hmem).2,this];simp[List.getD,hn]
    ·cases hn
   have hpl:((zs.take len).map λn=>UInt8.ofNat n.toNat).map bv≠[]->a'=⟨a'.block,a'.off,none⟩:=by
    intro hne;obtain⟨v,r,Rm⟩:=List.exists_cons_of_ne_nil hne;have h0:=hj 0 v (by rw[Rm];rfl);simp only[Addr.add,if_true]at h0;have hsp:a'.spot=none:=by
     unfold World.cell? at h0;split at h0
     ·split at h0
      ·cases h0
      ·rename_i hn;simpa using hn
     ·cases h0
    cases a';simp at hsp;subst hsp;rfl
   refine⟨λhne=>by rw[Plain];exact congrArg some (hpl hne),λj v hv=>?_⟩;have:=hj j v hv;rw[hpl (by intro e;rw[e]at hv;simp at hv),addr_add]at this;exact this
  ·simp only[Rows.uptoBulk,X1,bu];omega
end
end
section
open Go Go.RowKit Go.Shelf
theorem ay.dr(h:ay V s l){k:Nat}(hk:k<=l.length):ay V ⟨aU s.a k s.cap 1,s.len-k,s.cap-k⟩ (l.drop k):=by
 have:=aB.sub h (n:=1) (λ_=>rfl) (a:=k) (b:=l.length) hk (aK _);rw[fR]at this;rw[h.len];exact this
theorem ay.tk(h:ay V s l){k:Nat}(hk:k<=l.length):ay V ⟨aU s.a 0 s.cap 1,k-0,s.cap-0⟩ (l.take k):=aB.sub h (n:=1) (λ_=>rfl) (a:=0) (b:=k) (cu _) hk
theorem ay.tk3(h:ay V s l){k:Nat}(hk:k<=l.length):ay V ⟨aU s.a 0 k 1,k-0,k-0⟩ (l.take k):=by
 refine⟨by simp;omega,aK _,λhne=>?_,λj v hj=>?_⟩
 ·have hp:Plain s.a:=h.cells.1 (λe=>hne (by
   have:l=[]:=by cases l with
    | nil=>rfl
    | cons c r=>simp at e
   rw[this];simp))
  exact(yV hp:Plain (aU s.a 0 k 1))
 ·have JM:(l.flatMap aE)[j]?=some v:=by
   have:=PM (f:=aE) (n:=1) (l:=l) (λ_=>rfl) k;rw[<-this,AU]at hj;split at hj
   ·exact hj
   ·cases hj
  have hp:Plain s.a:=h.cells.1 (λe=>by rw[e]at JM;simp at JM);have hc:=h.cells.2 j v JM;have ho:bw (aU s.a 0 k 1)=bw s.a:=by
   by_cases hz:k=0
   ·unfold aU;rw[if_pos hz]
   ·rw[yU hp hz,Nat.zero_mul,mK]
  show V.cell? ⟨bD (aU s.a 0 k 1),bw (aU s.a 0 k 1)+j,none⟩=some v;rw[yT,ho];exact hc
def wm(cs:ad):aD:=(List.range 256).map λj=>Value.bool (cs.contains (UInt8.ofNat j))
theorem agq(cs:ad)(x:UInt8):(wm cs)[x.toNat]?=some (.bool (cs.contains x)):=by
 unfold wm;rw[eu,pP x.toNat_lt];simp
section
variable{V W:ae}
def afz:Shelf.Ren:=⟨λ_=>295,λx=>if x=0 then 0 else if x=3 then 3 else if x=4 then 4 else if x=5 then 5 else if x=9 then 9 else if x=27 then 349 else x,λx=>x⟩
theorem ab6:SlLaysV.n11 Tryz.prog afz where
 mixed:=aj
 f11:=Tryz.func295.trans (congrArg some aj)
 t0:=Tryz.underlying0
 a0:=Tryz.isAgg0
 z0:=Tryz.sizeOf0
 v0:=Tryz.zeroValue0
 t3:=Tryz.underlying3
 a3:=Tryz.isAgg3
 z3:=Tryz.sizeOf3
 v3:=Tryz.zeroValue3
 t4:=Tryz.underlying4
 a4:=Tryz.isAgg4
 z4:=Tryz.sizeOf4
 v4:=Tryz.zeroValue4
 t5:=Tryz.underlying5
 a5:=Tryz.isAgg5
 z5:=Tryz.sizeOf5
 v5:=Tryz.zeroValue5
 t9:=Tryz.underlying9
 a9:=Tryz.isAgg9
 z9:=Tryz.sizeOf9
 v9:=Tryz.zeroValue9
 t27:=Tryz.underlying349
 a27:=Tryz.isAgg349
 z27:=Tryz.sizeOf349
theorem agr(hV:Sub V W){cs:ad}(hcs:∀b∈cs,b.toNat<128)(hl:cs.length<1000):aC 295 [str cs] W λv w'=>v=.tuple #[.agg (wm cs).toArray,.bool true]/\Rel W V [] V w':=by
 have h:=Any.bytes_makeASCIISet ab6 (λw=>by kernel_rfl) aj ⟨cs.toArray⟩ W (by show cs.toArray.size<_;simp;omega) (λj b hb=>hcs b (fH (by simpa using hb)));have e:Lib.setCells (⟨cs.toArray⟩:ByteArray).data.toList=(wm cs).toArray:=by
  rw[Lib.setCells_eq];unfold wm;apply Array.ext';simp
 rw[e]at h;exact eD.sF Tryz.func295 aj aj (Calls.lM h λe w' ⟨he,hw⟩=>⟨_,he,rfl,by rw[hw];exact((Rel.start hV).newObj _).w9⟩)
theorem abG(hV:Sub V W){b:Nat}{cs:ad}(hb:di V b (wm cs) 349)(x:UInt8):aC 319 [.pointer (some ⟨b,0,none⟩),bv x] W λv w'=>v=.bool (cs.contains x)/\Rel W V [] V w':=by
 have H:=Rel.start hV;have h1:=hb.bE (agq cs x);have C3:=x.toNat_lt;refine eV Tryz.func319 10 [0,1,4] ?_;refine wk ?_;rw[show x.toNat=placeOf 0 ((x.toNat:Nat):Int).toNat 1 by simp[placeOf]]at h1;refine⟨_,H.zL h1,?_⟩;refine wk ?_;exact H
theorem ahH(hV:Sub V W){b:Nat}{cs:ad}(hb:di V b (wm cs) 349){s:Sl}{l:ad}(hs:ay V s l)(hl:l.length<=1099511627776):aC 296 [s.v,.pointer (some ⟨b,0,none⟩)] W λv w'=>(∃r:Sl,v=r.v/\∀U,ay U s l->ay U r (l.dropWhile λc=>cs.contains c))/\Rel W V [] V w':=by
 have H:=Rel.start hV;have hlen:=hs.len;refine eV Tryz.func296 20 [0,1,4,7,13,18] ?_;refine wk ?_;refine aP.cut 0 (λr:Sl=>[(0,r.v)]) (λr w'=>(∀U,ay U s l->ay U r (l.dropWhile λc=>cs.contains c))/\Rel W V [] V w') ?_ ?_
 ·refine aY (S:=Sl) ah [1,4,18] (λk=>[(0,k.v)]) (λk w'=>(∃m,(∀U,ay U s l->ay U k m)/\m.length<=l.length/\m.dropWhile (λc=>cs.contains c)=l.dropWhile (λc=>cs.contains c))/\Rel W V [] V w') (λk _=>k.len) s ?_;conv=>whnf
  refine⟨sB,⟨⟨l,λ_ h=>h,aK _,rfl⟩,H⟩,?_⟩;clear H;rintro r w⟨⟨m,hr',mw,hm⟩,H⟩;have hr:=hr' V hs;have hrl:=hr.len;cases m with
  | nil =>
   have eK:r.len=0:=hrl;refine wk ?_;refine⟨r,sB,?_,H⟩;rw[<-hm];exact hr'
  | cons x m =>
   rw[av]at hrl;obtain⟨p0,c0⟩:=hr.aX (g:=bv) (λ_=>rfl) (show 0<(x::m).length by simp);rw[List.getElem_cons_zero]at c0;refine wk ?_;refine(abG H.data hb x).use ?_;rintro v w⟨rfl,K⟩;(replace H:=H.az K);cases hx:cs.contains x with
   | false =>
    have e:(x::m).dropWhile (λc=>cs.contains c)=x::m:=by rw[Tt,if_neg (by rw[hx];decide)]
    rw[e]at hm;refine wk ?_;refine⟨r,sB,?_,H.sx⟩;rw[<-hm];exact hr'
   | true =>
    have e:(x::m).dropWhile (λc=>cs.contains c)=m.dropWhile (λc=>cs.contains c):=by rw[Tt,if_pos hx]
    rw[e]at hm;refine wk ?_;exact⟨sB,_,sB,⟨⟨m,λU hU=>(hr' U hU).dr (k:=1) ai,by simp at mw |-;omega,hm⟩,H.sx⟩,by dsimp only;omega⟩
 clear H;rintro r w⟨hr,H⟩;have hrl:=(hr V hs).len;by_cases h0:r.len=0
 ·refine wk ?_;refine⟨⟨⟨none,0,0⟩,rfl,λU _=>?_⟩,H.sx⟩;rw[bL (hrl.symm.trans h0)];exact aB.nil _ _
 ·refine wk ?_;exact⟨⟨r,rfl,hr⟩,H.sx⟩
theorem D1(hV:Sub V W){s:Sl}{l:ad}(hs:ay V s l)(hl:l.length<=1099511627776){cs:ad}(hcs:∀b∈cs,b.toNat<128)(h1:2<=cs.length)(h2:cs.length<1000):aC 250 [s.v,str cs] W λv w'=>(∃r:Sl,v=r.v/\ay V r (l.dropWhile λc=>cs.contains c))/\Rel W V [] V w':=by
 have H:=Rel.start hV;have hlen:=hs.len;have hsz:(ByteArray.mk cs.toArray).size=cs.length:=rfl;refine eV Tryz.func250 36 [0,1,4,5,6,9,11,20,30] ?_;by_cases h0:s.len=0
 ·refine wk ?_;refine⟨⟨⟨none,0,0⟩,rfl,?_⟩,H.sx⟩;rw[bL (hlen.symm.trans h0)];exact aB.nil _ _
 refine wk ?_;refine gI (λh=>?_) (λ_=>?_)
 ·rw[h]at h1;simp at h1
 refine wk ?_;refine(agr H.data hcs h2).use ?_;rintro v w⟨rfl,K⟩;(replace H:=H.az K);refine wk ?_;refine H.nA ?_;clear H;intro w b5 H;refine H.wh ?_;clear H;intro w H;replace H:=H.bA (c':=wm cs) aW;obtain⟨V2,hV2,H,hb5⟩:=H.bt;refine wk ?_;refine(ahH H.data hb5 (hs.up hV2) hl).use ?_;rintro v w⟨⟨r,rfl,hr⟩,K⟩;(replace H:=H.az K);refine wk ?_;exact⟨⟨r,rfl,hr V hs⟩,H.sx.less (Sub.refl _) hV2⟩
end
end
end Go.Proofs.YtmoiobegbpkkbaaGreatDoor
