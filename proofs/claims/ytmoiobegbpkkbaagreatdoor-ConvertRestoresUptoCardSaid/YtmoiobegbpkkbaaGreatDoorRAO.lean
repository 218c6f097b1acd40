import Derived.Test.YtmoiobegbpkkbaaGreatDoorRAN
import Derived.Test.YtmoiobegbpkkbaaGreatDoorCards
import Derived.Test.YtmoiobegbpkkbaaGreatDoorTie
import Derived.Deep.DeepHandedRow
import Derived.Lib.LaidU8
import Derived.Lib.LaidU8T
import Derived.Shelf.Vars
open List renaming mem_cons->bB,length_nil->aI,length_cons->av,take_of_length_le->bR,append_assoc->bJ,cons_append->aL,nil_append->aA,length_append->aq,length_take->bb,take_zero->q8,length_singleton->cQ,mem_append->cq,eq_nil_of_length_eq_zero->bL,mem_of_getElem?->fH,getElem_mem->cj,take_succ_eq_append_getElem->bZ,flatMap_append->bT,mem_singleton->cv,map_cons->fq,sum_cons->pR,foldl_append->yB,map_nil->kx,sum_nil->Tu
open Nat renaming zero_le->cu
open Option.some renaming inj->kX
namespace Go.Proofs.YtmoiobegbpkkbaaGreatDoor
open Go Go.RowKit
set_option maxRecDepth 100000
set_option maxHeartbeats 8000000
variable{v:ar}{s:nV}{b:ad}{N:Nat}{Z:List fL}{W:ae}
theorem aiU(d n:Nat):nc d [] n=.ok n:=rfl
theorem MI(k:Int)(s:bg):∀(ps:List ar) (i:Nat) {d n m:Nat},(∀p∈ps,∀ {d a b:Nat},fe d p a=.ok b->(fm p).length+3+5*a<=5*b)->nc d ps n=.ok m->(oL k s i ps).length+5*n<=5*m
 | [],i,d,n,m,_,h=>by
  have:n=m:=by simpa [aiU]using h
  simp[oL,this]
 | p::ps,i,d,n,m,hp,h=>by
  obtain⟨x,h1,h2⟩:=NW h;have a1:=hp p ai h1;have a2:=MI k s ps (i+1) (λq hq=>hp q (by simp[hq])) h2;have a3:(iT k s i p).length<=3+(fm p).length:=by
   unfold iT;simp only[aq];have:((if i=0 then[]else[[44]]:List Tok)).length<=1:=by split<;>simp
   have:((if k=4 then[s.getD i [],[58]]else[]:List Tok)).length<=2:=by split<;>simp
   omega
  rw[MJ,aq];omega
theorem ahy(hv:fX v):∀ {d a b:Nat},fe d v a=.ok b->(fm v).length+3+5*a<=5*b:=by
 induction hv with
 | num h =>
  intro d a b hc;have:=Ic hc;rw[Hf,cQ];omega
 | iY x =>
  intro d a b hc;have:=Ic hc;rw[DY,cQ];omega
 | @yj ps h ih =>
  intro d a b hc;have h1:=(tn hc).2.2.2.2.2.2.2;have:=MI 3 [] ps 0 (λp hp=>ih p hp) h1;rw[DZ,av,aq,cQ];change (eP 3 [] ps).length+_<=_ at this;omega
 | @yH s ps hs hl h ih =>
  intro d a b hc;have h1:=(tn hc).2.2.2.2.2.2.2;have:=MI 4 s ps 0 (λp hp=>ih p hp) h1;rw[D0,av,aq,cQ];change (eP 4 s ps).length+_<=_ at this;omega
theorem mem_zipIdx{α:Type}{l:List α}{p:α×Nat}(h:p∈l.zipIdx):l[p.2]?=some p.1:=by
 obtain⟨i,hi⟩:=List.mem_iff_getElem?.1 h;rw[List.getElem?_zipIdx]at hi;obtain⟨x,hx,rfl⟩:=Option.map_eq_some_iff.1 hi;simpa using hx
theorem Vj{k:Int}{s:bg}{ps:List ar}(hs:∀x∈s,x.length<=5000000)(hp:∀p∈ps,∀t∈fm p,t.length<=5000000):∀t∈eP k s ps,t.length<=5000000:=by
 intro t ht;unfold eP iT at ht;obtain⟨p,hpz,ht⟩:=List.mem_flatMap.1 ht;have h2:=mem_zipIdx hpz;rcases cq.1 ht with h|h
 ·split at h
  ·simp at h
  ·simp only[cv]at h;subst h;simp
 ·rcases cq.1 h with h|h
  ·split at h
   ·rcases bB.1 h with rfl|h
    ·rw[List.getD];cases hg:s[p.2]? with
     | none=>simp
     | some x=>exact hs x (fH hg)
    ·simp only[cv]at h;subst h;simp
   ·simp at h
  ·exact hp _ (fH h2) t h
theorem ahx(hv:fX v):VB 1048576 v->∀t∈fm v,t.length<=5000000:=by
 induction hv with
 | num h =>
  intro _ t ht;rw[Hf,cv]at ht;have:=Lib.itoa_length_le _ h.1 h.2;rw[ht];omega
 | iY x =>
  intro hB t ht;rw[DY,cv]at ht;have h1:=hB.bytes;have h2:=LR x;simp only[ar.bytes]at h1;rw[ht,pY,av,aq,cQ];omega
 | @yj ps h ih =>
  intro hB t ht;rw[DZ]at ht;rcases bB.1 ht with rfl|ht
  ·simp
  ·rcases cq.1 ht with ht|ht
   ·exact Vj ai (λp hp=>ih p hp (hB.part p hp)) t ht
   ·simp only[cv]at ht;subst ht;simp
 | @yH s ps hs hl h ih =>
  intro hB t ht;rw[D0]at ht;rcases bB.1 ht with rfl|ht
  ·simp
  ·rcases cq.1 ht with ht|ht
   ·exact Vj (λx hx=>by have:=Dk (hs x hx);omega) (λp hp=>ih p hp (hB.part p hp)) t ht
   ·simp only[cv]at ht;subst ht;simp
theorem ab7{ts:List Tok}(h:∀t∈ts,t.length<=5000000):fQ ts<=5000000*ts.length:=by
 induction ts with
 | nil=>exact cu _
 | cons t ts ih =>
  have h1:=h t ai;have h2:=ih λx hx=>h x (by simp[hx]);simp only[fQ,fq,pR,av]at h2 |-;omega
def Room(s:nV)(ts:List Tok):Prop:=s.out.length+fQ ts+100000000*ts.length<=450000000000/\s.cnt+ts.length<=100000
theorem afM(hv:fX v)(hB:VB 1048576 v){b:Nat}(hc:fe 0 v 0=.ok b):Room ⟨[],0,[]⟩ (fm v++[[]]):=by
 have h1:=ahy hv hc;have h2:=Ie hc;have h3:=ab7 (ahx hv hB);unfold Room;rw[C9,aq];simp only[fQ,aI,cQ,fq,kx,pR,Tu]at h3 |-;have:(fm v).length<=3000:=aa;have:=Nat.mul_le_mul_left 5000000 this;omega
section
variable{Z:List fL}
theorem ahp(hb:∀x∈Z,x.2.length<=100000000)(s:nV)(t:Tok):(gN Z s t).out.length<=s.out.length+t.length+100000000:=by
 obtain⟨bl,hbl⟩:∃bl,bl=match iC Z s.cnt with
   | some b=>b
   | none=>if t=[]then[10]else sZ (af s.last):=⟨_,rfl⟩
 have:bl.length<=100000000:=by
  rw[hbl];cases hl:iC Z s.cnt with
  | none =>
   dsimp only;split
   ·simp
   ·unfold sZ;split<;>simp
  | some b =>
   obtain⟨x,hx,rfl⟩:=Option.map_eq_some_iff.1 hl;exact hb x (List.mem_of_find?_eq_some hx)
 have e:(gN Z s t).out=s.out++bl++t:=by rw[hbl];rfl
 rw[e,aq,aq];omega
theorem Room.tail(hb:∀x∈Z,x.2.length<=100000000){s:nV}{t:Tok}{r:List Tok}(h:Room s (t::r)):Room (gN Z s t) r:=by
 have h1:=ahp hb s t;obtain⟨h2,h3⟩:=h;simp only[fQ,fq,pR,av]at h2 h3;exact⟨by simp only[fQ];omega,by show s.cnt+1+r.length<=_;omega⟩
theorem Room.head{t:Tok}{r:List Tok}(h:Room s (t::r)):s.out.length+t.length<=500000000000/\s.cnt<=1000000:=by
 obtain⟨h2,h3⟩:=h;simp only[fQ,fq,pR,av]at h2 h3;exact⟨aa,aa⟩
theorem Room.left{a b:List Tok}(h:Room s (a++b)):Room s a:=by
 obtain⟨h2,h3⟩:=h;rw[C9,aq]at h2;rw[aq]at h3;exact⟨aa,aa⟩
theorem Room.right(hb:∀x∈Z,x.2.length<=100000000):∀ {a b:List Tok} {s:nV},Room s (a++b)->Room (a.foldl (gN Z) s) b
 | [],_,_,h=>h
 | t::a,b,s,h=>Room.right hb (a:=a) (Room.tail hb h)
theorem fX.part(h:fX v):∀p∈v.parts,fX p:=by
 cases h with
 | num _=>simp[ar.parts]
 | iY _=>simp[ar.parts]
 | yj h=>exact h
 | yH _ _ h=>exact h
theorem adH(t:Tok)(h:t≠[])(s:nV):(gN Z s t).out≠[]:=by
 show(s.out++_++t)≠[];simp[h]
theorem SS{k:Nat}(hk:k<v.parts.length):∃R,eP v.kind v.names v.parts=eP v.kind v.names (v.parts.take k)++(iT v.kind v.names k v.parts[k]++R):=by
 refine⟨oL v.kind v.names (k+1) (v.parts.drop (k+1)),?_⟩;have e:v.parts=v.parts.take k++v.parts[k]::v.parts.drop (k+1):=by
  rw[List.getElem_cons_drop,List.take_append_drop]
 rw[<-MJ];conv=>lhs;rw[e]
 unfold eP oL;rw[List.zipIdx_append,bT,bb,show min k v.parts.length=k by omega,Nat.zero_add]
end
section
variable{wb mb jv:Nat}{es:Array MapEntry}
theorem aih:∀(N:Nat) {w0 V0 V w:ae} {own:bU} {r:Sl} {hs:List dt} {Z:List fL} {s:nV} {h:VH} {v:ar} {d a b:Nat},SizeOf.sizeOf v<N->mW V->Rel w0 V0 (te wb mb r es jv s++own) V w->mU es hs->Pw ib V hs Z->(∀x∈Z,x.2.length<=100000000)->bV V h v->VB 1048576 v->fe d v a=.ok b->fX v->Room s (fm v) ->
  aC 163 [.pointer (some ⟨wb,0,none⟩),fb h] w λq w'=>q=.tuple #[]/\∃(V':ae) (r':Sl),Sub V V'/\Rel w0 V0 (te wb mb r' es jv ((fm v).foldl (gN Z) s)++own) V' w':=by
 intro N;induction N with
 | zero=>intro w0 V0 V w own r hs Z s h v d a b hz;omega
 | succ N ih =>
  intro w0 V0 V w own r hs Z s h v d a b hz hE H hm hp hb hv hB hok hw hR;have l3:=hv.kt;have hpl:=hB.parts;have hns:=hv.names;have JW:=hB.num;have hbl:=hB.bytes;obtain⟨_,_,hr,hf,Je,hna,_,hpo⟩:=tn hok;have he:=Bf v;have e1:=hv.kind;have e2:=hv.num;obtain⟨hk,hn,bs,ss,pl⟩:=h;have l2:=hns.len;dsimp only at e1 e2 l2 l3 hns;subst e1 e2;have fN:=hv.bytes;change aC 163 [.pointer (some ⟨wb,0,none⟩),.agg [iv v.kind,iv v.num,bs.v,ss.v,pl.v].toArray] w _;refine eV Tryz.func163 61 [0,1,3,4,5,6,7,8,10,11,18,28,33,34,35,36,41,44] ?_;refine wk ?_;refine H.nA ?_;clear H;intro w b1 H;obtain⟨V1,hV1,H,fE⟩:=H.bt;have c0:V1.cell? ⟨b1,0,none⟩=some (iv v.kind):=fE.bE rfl;have c1:V1.cell? ⟨b1,1,none⟩=some (iv v.num):=fE.bE rfl;have c2:V1.cell? ⟨b1,2,none⟩=some bs.v:=fE.bE rfl;have c3:V1.cell? ⟨b1,3,none⟩=some ss.v:=fE.bE rfl;have c4:V1.cell? ⟨b1,4,none⟩=some pl.v:=fE.bE rfl;replace hp:=hp.up ib.up hV1;replace hE:=hE.up hV1;replace hv:=hv.up hV1;replace hns:=hns.up hV1;replace fN:=fN.up hV1;by_cases k1:v.kind=1
  ·rw[if_pos k1]at he;rw[he]at hR |-;refine wk ?_;refine(RG H.data hE JW).use ?_;rintro q w⟨rfl,K⟩;(replace H:=Rel.call H K);simp only[aA]at H;refine wk ?_;refine(oM H hm hp hb hR.head.1 hR.head.2 (.inl (by obtain⟨c,r,hc,_⟩:=FD v.num;rw[hc];simp))).use ?_;clear H;rintro q w⟨rfl,r,H⟩;refine wk ?_;exact⟨V1,r,hV1,H⟩
  rw[if_neg k1]at he;by_cases k2:v.kind=2
  ·rw[if_pos k2]at he;rw[he]at hR |-;refine wk ?_;refine(aeT H.data fN aa).use ?_;rintro q w⟨rfl,K⟩;(replace H:=Rel.call H K);simp only[aA]at H;refine wk ?_;refine(oM H hm hp hb hR.head.1 hR.head.2 (.inl (by simp[pY]))).use ?_;clear H;rintro q w⟨rfl,r,H⟩;refine wk ?_;exact⟨V1,r,hV1,H⟩
  rw[if_neg k2]at he;rw[he]at hR |-;by_cases k4:v.kind=4
  ·have eo:pI v.kind=[123]:=by rw[pI,if_pos k4]
   have ee:qu v.kind=[125]:=by rw[qu,if_pos k4]
   rw[eo,ee]at hR |-;have hnl:v.names.length=v.parts.length:=by
    unfold ig at hf;omega
   refine wk ?_;refine(oM H hm hp hb hR.head.1 hR.head.2 (.inl ai)).use ?_;clear H;rintro q w⟨rfl,r,H⟩;refine wk ?_;refine aY (S:=Nat) ah [0,1,3,4,5,6,10,11,18,28,33,34] (λk=>[(35,iv (k:Int))]) (λk w'=>k<=v.parts.length/\∃(V':ae) (r':Sl),Sub V1 V'/\Rel w0 V0 (te wb mb r' es jv (([123]::eP v.kind v.names (v.parts.take k)).foldl (gN Z) s)++own) V' w') (λk _=>v.parts.length-k) 0 ?_;conv=>whnf
   refine⟨sB,⟨cu _,V1,r,Sub.refl _,by rw[q8,Vk];exact H⟩,?_⟩;clear H;rintro k w⟨hk,V2,r,hV2,H⟩;by_cases hlt:k<v.parts.length;rotate_left
   ·rw[bR aa]at H;have Cp:=Room.right hb (a:=[123]::eP v.kind v.names v.parts) (b:=[[125]]) hR;refine wk ?_;refine(oM H hm (hp.up ib.up hV2) hb Cp.head.1 Cp.head.2 (.inl ai)).use ?_;clear H;rintro q w⟨rfl,r,H⟩;refine wk ?_;exact⟨V2,r,hV1.trans hV2,by rw[<-aL,yB];exact H⟩
   obtain⟨R,hsp⟩:=SS hlt;obtain⟨hq,x,hx,q0,q1,q2,q3,q4⟩:=(hv.up hV2).jE hlt;have hmem:=cj hlt;obtain⟨a',m',dy⟩:=rO hpo _ hmem;obtain⟨p,my⟩:∃p,p=v.parts[k]:=⟨_,rfl⟩
   have hsl:=ar.vF hmem;have tP:=hB.part _ hmem;have hpw:=hw.part _ hmem;have J2:=hns.up hV2;rw[<-my]at hsp hx dy hsl tP hpw;obtain⟨sk,sq⟩:∃sk,sk=([123]::eP v.kind v.names (v.parts.take k)).foldl (gN Z) s:=⟨_,rfl⟩
   rw[<-sq]at H;have dE:Room sk (iT v.kind v.names k p++(R++[[125]])):=by
    rw[sq];refine Room.right hb ?_;rw[hsp]at hR;simpa only[aL,bJ]using hR
   have hnext:([123]::eP v.kind v.names (v.parts.take (k+1))).foldl (gN Z) s=(iT v.kind v.names k p).foldl (gN Z) sk:=by
    rw[bZ hlt,He,bb,show min k v.parts.length=k by omega,<-aL,yB,<-sq,my]
   unfold iT at dE hnext;refine wk ?_;refine H.nA ?_;clear H;intro w b5 H;refine H.wg ?_;clear H;intro w H;obtain⟨V3,aw,H,hb5⟩:=H.bt;have d0:V3.cell? ⟨b5,0,none⟩=some (iv x.k):=hb5.bE rfl;have d1:V3.cell? ⟨b5,1,none⟩=some (iv x.n):=hb5.bE rfl;have d2:V3.cell? ⟨b5,2,none⟩=some x.bs.v:=hb5.bE rfl;have d3:V3.cell? ⟨b5,3,none⟩=some x.ss.v:=hb5.bE rfl;have d4:V3.cell? ⟨b5,4,none⟩=some x.pl.v:=hb5.bE rfl;have nh:=hV2.trans aw;have qI:=hp.up ib.up nh;have Ch:=hE.up nh;replace hx:=hx.up aw;replace c3:=nh.cell c3;have J3:=J2.up aw;by_cases h0:k=0;rotate_left
   ·rw[if_neg h0]at dE hnext;refine wk ?_;refine(oM H hm qI hb dE.head.1 dE.head.2 (.inl ai)).use ?_;clear H;rintro q w⟨rfl,r,H⟩;replace dE:=dE.tail hb;rw[if_pos k4]at dE hnext;have lG:k<v.names.length:=aa;have tL:v.names.getD k []=v.names[k]:=by simp[List.getD,lG]
    rw[tL]at dE hnext;obtain⟨tO,qJ⟩:=J3.rW (g:=str) (λ_=>rfl) lG;have hnl:=Dj (hna _ (cj lG));refine wk ?_;refine(oM H hm qI hb dE.head.1 dE.head.2 (.inl (by obtain⟨c,y,hc,_⟩:=hnl;rw[hc];simp))).use ?_;clear H;rintro q w⟨rfl,r,H⟩;replace dE:=dE.tail hb;refine wk ?_;refine(oM H hm qI hb dE.head.1 dE.head.2 (.inl ai)).use ?_;clear H;rintro q w⟨rfl,r,H⟩;replace dE:=dE.tail hb;refine wk ?_;refine(ih aa Ch H hm qI hb hx tP dy hpw dE.left).use ?_;clear H;rintro q w⟨rfl,V4,r,aG,H⟩;refine wk ?_;exact⟨sB,k+1,sB,⟨aa,V4,r,nh.trans aG,by rw[hnext];exact H⟩,aa⟩
   ·rw[if_pos h0]at dE hnext;refine wk ?_;rw[if_pos k4]at dE hnext;have lG:k<v.names.length:=aa;have tL:v.names.getD k []=v.names[k]:=by simp[List.getD,lG]
    rw[tL]at dE hnext;obtain⟨tO,qJ⟩:=J3.rW (g:=str) (λ_=>rfl) lG;have hnl:=Dj (hna _ (cj lG));refine wk ?_;refine(oM H hm qI hb dE.head.1 dE.head.2 (.inl (by obtain⟨c,y,hc,_⟩:=hnl;rw[hc];simp))).use ?_;clear H;rintro q w⟨rfl,r,H⟩;replace dE:=dE.tail hb;refine wk ?_;refine(oM H hm qI hb dE.head.1 dE.head.2 (.inl ai)).use ?_;clear H;rintro q w⟨rfl,r,H⟩;replace dE:=dE.tail hb;refine wk ?_;refine(ih aa Ch H hm qI hb hx tP dy hpw dE.left).use ?_;clear H;rintro q w⟨rfl,V4,r,aG,H⟩;refine wk ?_;exact⟨sB,k+1,sB,⟨aa,V4,r,nh.trans aG,by rw[hnext];exact H⟩,aa⟩
  ·have eo:pI v.kind=[91]:=by rw[pI,if_neg k4]
   have ee:qu v.kind=[93]:=by rw[qu,if_neg k4]
   rw[eo,ee]at hR |-;refine wk ?_;refine(oM H hm hp hb hR.head.1 hR.head.2 (.inl ai)).use ?_;clear H;rintro q w⟨rfl,r,H⟩;refine wk ?_;refine aY (S:=Nat) ah [0,1,3,4,5,6,10,11,18,28,33,34] (λk=>[(35,iv (k:Int))]) (λk w'=>k<=v.parts.length/\∃(V':ae) (r':Sl),Sub V1 V'/\Rel w0 V0 (te wb mb r' es jv (([91]::eP v.kind v.names (v.parts.take k)).foldl (gN Z) s)++own) V' w') (λk _=>v.parts.length-k) 0 ?_;conv=>whnf
   refine⟨sB,⟨cu _,V1,r,Sub.refl _,by rw[q8,Vk];exact H⟩,?_⟩;clear H;rintro k w⟨hk,V2,r,hV2,H⟩;by_cases hlt:k<v.parts.length;rotate_left
   ·rw[bR aa]at H;have Cp:=Room.right hb (a:=[91]::eP v.kind v.names v.parts) (b:=[[93]]) hR;refine wk ?_;refine(oM H hm (hp.up ib.up hV2) hb Cp.head.1 Cp.head.2 (.inl ai)).use ?_;clear H;rintro q w⟨rfl,r,H⟩;refine wk ?_;exact⟨V2,r,hV1.trans hV2,by rw[<-aL,yB];exact H⟩
   obtain⟨R,hsp⟩:=SS hlt;obtain⟨hq,x,hx,q0,q1,q2,q3,q4⟩:=(hv.up hV2).jE hlt;have hmem:=cj hlt;obtain⟨a',m',dy⟩:=rO hpo _ hmem;obtain⟨p,my⟩:∃p,p=v.parts[k]:=⟨_,rfl⟩
   have hsl:=ar.vF hmem;have tP:=hB.part _ hmem;have hpw:=hw.part _ hmem;have J2:=hns.up hV2;rw[<-my]at hsp hx dy hsl tP hpw;obtain⟨sk,sq⟩:∃sk,sk=([91]::eP v.kind v.names (v.parts.take k)).foldl (gN Z) s:=⟨_,rfl⟩
   rw[<-sq]at H;have dE:Room sk (iT v.kind v.names k p++(R++[[93]])):=by
    rw[sq];refine Room.right hb ?_;rw[hsp]at hR;simpa only[aL,bJ]using hR
   have hnext:([91]::eP v.kind v.names (v.parts.take (k+1))).foldl (gN Z) s=(iT v.kind v.names k p).foldl (gN Z) sk:=by
    rw[bZ hlt,He,bb,show min k v.parts.length=k by omega,<-aL,yB,<-sq,my]
   unfold iT at dE hnext;refine wk ?_;refine H.nA ?_;clear H;intro w b5 H;refine H.wg ?_;clear H;intro w H;obtain⟨V3,aw,H,hb5⟩:=H.bt;have d0:V3.cell? ⟨b5,0,none⟩=some (iv x.k):=hb5.bE rfl;have d1:V3.cell? ⟨b5,1,none⟩=some (iv x.n):=hb5.bE rfl;have d2:V3.cell? ⟨b5,2,none⟩=some x.bs.v:=hb5.bE rfl;have d3:V3.cell? ⟨b5,3,none⟩=some x.ss.v:=hb5.bE rfl;have d4:V3.cell? ⟨b5,4,none⟩=some x.pl.v:=hb5.bE rfl;have nh:=hV2.trans aw;have qI:=hp.up ib.up nh;have Ch:=hE.up nh;replace hx:=hx.up aw;replace c3:=nh.cell c3;have J3:=J2.up aw;by_cases h0:k=0;rotate_left
   ·rw[if_neg h0]at dE hnext;refine wk ?_;refine(oM H hm qI hb dE.head.1 dE.head.2 (.inl ai)).use ?_;clear H;rintro q w⟨rfl,r,H⟩;replace dE:=dE.tail hb;rw[if_neg k4]at dE hnext;refine wk ?_;refine(ih aa Ch H hm qI hb hx tP dy hpw dE.left).use ?_;clear H;rintro q w⟨rfl,V4,r,aG,H⟩;refine wk ?_;exact⟨sB,k+1,sB,⟨aa,V4,r,nh.trans aG,by rw[hnext];exact H⟩,aa⟩
   ·rw[if_pos h0]at dE hnext;refine wk ?_;rw[if_neg k4]at dE hnext;refine wk ?_;refine(ih aa Ch H hm qI hb hx tP dy hpw dE.left).use ?_;clear H;rintro q w⟨rfl,V4,r,aG,H⟩;refine wk ?_;exact⟨sB,k+1,sB,⟨aa,V4,r,nh.trans aG,by rw[hnext];exact H⟩,aa⟩
end
theorem Wi(h:(bI v).1=0):∃b,fe 0 v 0=.ok b:=by
 unfold bI at h;cases hc:fe 0 v 0 with
 | ok b=>exact⟨b,rfl⟩
 | error e =>
  rw[hc]at h;dsimp only at h;exfalso;exact Yl hc h
where
 Yl {v:ar} {e:Int×Int} (hc:fe 0 v 0=.error e) (h:e.1=0):False:=by
  unfold fe at hc;exact Us hc h
 Us:∀ {l:List (ar×Nat)} {n:Nat} {e:Int×Int},scan l n=.error e->e.1=0->False
  | [],n,e,hc,_=>by simp[scan]at hc
  | (v,d)::l,n,e,hc,h=>by
   simp only[scan]at hc;split at hc
   ·rename_i hne;cases hc;exact hne h
   ·exact Us hc h
theorem ait(hB:VB N v):∀ {d a b:Nat},fe d v a=.ok b->fX v:=by
 induction hB with
 | @mk v hk hn _ _ _ _ hp ih =>
  intro d a b hc;rw[BR]at hc;split at hc
  ·cases hc
  ·rename_i h0;have h0:=Decidable.not_not.1 h0;unfold kH at h0;split at h0
   ·cases h0
   ·obtain⟨h1,h2,_,h4,_⟩:=nB h0;have Q8:∀p∈v.parts,fX p:=λp tO=>by
     obtain⟨x,y,mG⟩:=rO hc p tO;exact ih p tO mG
    obtain⟨k,n,bs,ns,ps⟩:=v;unfold ig at h2;simp only[ar.kind,ar.num,ar.bytes,ar.names,ar.parts]at *;have tD:k≠2->bs=[]:=λh=>bL aa;have hn0:k≠4->ns=[]:=λh=>bL aa;have vq:k<3->ps=[]:=λh=>bL aa;have hz0:k≠1->n=0:=λh=>by omega
    have:k=1\/k=2\/k=3\/k=4:=aa;rcases this with rfl|rfl|rfl|rfl
    ·rw[tD ag,hn0 ag,vq ag];exact .num hn
    ·rw[hz0 ag,hn0 ag,vq ag];exact .iY bs
    ·rw[hz0 ag,tD ag,hn0 ag];exact .yj Q8
    ·rw[hz0 ag,tD ag];exact .yH h4 aa Q8
theorem ais(hB:VB N v)(h:(bI v).1=0):fX v:=by
 obtain⟨b,hb⟩:=Wi h;exact ait hB hb
theorem ae5(h:jK b=some Z):∀x∈Z,x.2.length<=b.length:=by
 intro x hx;obtain⟨h1,_⟩:=Vo h;have hne:Z≠[]:=by rintro rfl;simp at hx
 rw[oN,if_neg hne]at h1;have h1:=congrArg List.length h1;obtain⟨A,B,rfl⟩:=List.append_of_mem hx;have h2:=Ta x.2;simp only[bY,bT,List.flatMap_cons,aq]at h1;omega
theorem ahA(h:jK b=none):l4 v b=none:=by unfold l4;rw[h]
theorem ahB(h:jK b=some Z)(h2:(rD v Z).length<=1000->gO (rD v Z)≠some (v,b)):l4 v b=none:=by
 unfold l4;rw[h];simp only;rw[if_neg λq=>h2 q.1 q.2]
theorem ahC(h:jK b=some Z)(h1:(rD v Z).length<=1000)(h2:gO (rD v Z)=some (v,b)):l4 v b=some (rD v Z):=by
 unfold l4;rw[h];simp only;rw[if_pos ⟨h1,h2⟩]
theorem ZX(hw:fX v){Z:List fL}{s:nV}:((fm v).foldl (gN Z) s).out≠[]:=by
 rcases List.eq_nil_or_concat (fm v)with h|⟨A,t,h⟩
 ·exact absurd h (MK v)
 ·have ht:t∈fm v:=by rw[h];simp
  obtain⟨c,x,hc,_⟩:=ML hw ht;rw[h,List.concat_eq_append,yB];exact adH t (by rw[hc];simp) _
section
variable{V W:ae}
theorem aac(hV:Sub V W)(hE:mW V){h:VH}{v:ar}(hv:bV V h v)(hB:VB 1048576 v){s:Sl}{b:ad}(hs:ay V s b)(hl:b.length<=100000000):aC 68 [fb h,s.v] W (mT W V (ct v (Bg v).isSome (l4 v b))):=by
 have H:=Rel.start hV;have hv0:=hv;have hpl:=hv.kt;obtain⟨k,n,bs,ss,pl⟩:=h;dsimp only at hpl;change aC 68 [.agg [iv k,iv n,bs.v,ss.v,pl.v].toArray,s.v] W _;refine eV Tryz.func68 90 [0,1,2,4,5,6,7,8,9,11,12,13,14,15,16,21,29,34,35,36,37,70,83] ?_;refine wk ?_;refine H.nA ?_;clear H;intro w b2 H;refine wk ?_;refine H.nA ?_;clear H;intro w b5 H;refine wk ?_;refine(qe H.data hv0 hB).use ?_;rintro q w⟨rfl,K⟩;(replace H:=H.az K);refine wk ?_;refine H.nA ?_;clear H;intro w b6 H;by_cases bP:(bI v).1=0;rotate_left
 ·have e:ct v (Bg v).isSome (l4 v b)=([],bI v):=by unfold ct;rw[if_pos bP]
  rw[e];refine H.wg ?_;clear H;intro w H;(first|refine dV 3 [] [0,1,2] H ?_|refine dV 11 [] [0,1,2,3,4,5,6,7,8] H ?_);clear H;intro w H;refine H.wg ?_;clear H;intro w H;exact⟨V,⟨none,0,0⟩,Sub.refl _,H.sx,rfl,aB.nil _ _⟩
 have qL:=oQ bP;rw[qL];have eS:l4 v b=none->ct v (Bg v).isSome (l4 v b)=([],6, -2):=λh=>by
  rw[h];unfold ct;rw[if_neg (λh=>h bP)];rfl
 refine H.wg ?_;clear H;intro w H;refine(afg H.data hs aa).use ?_;rintro q w⟨V2,l,hh,hV2,K,hres⟩;(replace H:=H.az K);cases hr:jK b with
 | none =>
  rw[hr]at hres;obtain rfl:=hres;have e:=eS (ahA hr);rw[e];refine wk ?_;first|(refine(u4 H.data 6 (-2)).use ?_;rintro q w⟨rfl,K⟩;(replace H:=H.az K))|skip
  refine H.wg ?_;clear H;intro w H;exact⟨V2,⟨none,0,0⟩,hV2,H.sx,rfl,aB.nil _ _⟩
 | some Z =>
  rw[hr]at hres;obtain⟨rfl,QX,hp⟩:=hres;obtain⟨fE,ni,hZb,hZa⟩:=Vo hr;have Fa:∀x∈Z,x.2.length<=100000000:=λx hx=>by have:=ae5 hr x hx;omega
  have hll:=QX.len;have pB:=hp.len;refine wk ?_;refine Rel.acN H ?_;clear H;intro w mb H;refine wk ?_;refine H.nA ?_;clear H;intro w wb H;refine wk ?_;refine aP.cut 0 (λ_:Unit=>[(1,s.v),(2,.pointer (some ⟨b2,0,none⟩)),(5,.pointer (some ⟨b5,0,none⟩)),(9,.pointer (some ⟨wb,0,none⟩))]) (λ_ w'=>∃(es:Array MapEntry) (jv:Nat),mU es hh/\Rel W V [.ax wb [.slice none 0 0,iv 0,str [],.map (some mb)] 204,.obj mb (.map es jv),.ax b5 [iv 0,iv 0] 31,.ax b2 [iv k,iv n,bs.v,ss.v,pl.v] 27] V2 w') ?_ ?_
  ·refine aY (S:=Nat) ah [0,1,2,4,5,6,7,8,9,12,13,14,15,16,21,29,34,35,70,83] (λj=>[(36,iv (j:Int))]) (λj w'=>j<=hh.length/\∃(es:Array MapEntry) (jv:Nat),mU es (hh.take j)/\Rel W V [.ax wb [.slice none 0 0,iv 0,str [],.map (some mb)] 204,.obj mb (.map es jv),.ax b5 [iv 0,iv 0] 31,.ax b2 [iv k,iv n,bs.v,ss.v,pl.v] 27] V2 w') (λj _=>hh.length-j) 0 ?_;conv=>whnf
   refine⟨sB,⟨cu _,#[],0,mU.nil,H.sx⟩,?_⟩;clear H;rintro j w⟨hj,es,jv,hm,H⟩;by_cases hlt:j<hh.length;rotate_left
   ·rw[bR aa]at hm;refine wk ?_;exact⟨(),sB,es,jv,hm,H⟩
   obtain⟨p1,c1,c2⟩:=QX.fM (g:=λr:dt=>iv r.1) (g':=λr:dt=>r.2.v) (λ_=>rfl) hlt;have hn:=acg hp hZa hlt;have vw:=bZ hlt;obtain⟨y,hy⟩:∃y,y=hh[j]:=⟨_,rfl⟩
   rw[<-hy]at c1 c2 hn vw;refine wk ?_;refine H.nA ?_;clear H;intro w tg H;refine H.wg ?_;clear H;intro w H;(first|refine dV 3 [] [0,1,2] H ?_|refine dV 11 [] [0,1,2,3,4,5,6,7,8] H ?_);clear H;intro w H;refine wk ?_;have H':Rel W V (.obj mb (.map es jv)::[.ax wb [.slice none 0 0,iv 0,str [],.map (some mb)] 204,.ax b5 [iv 0,iv 0] 31,.ax b2 [iv k,iv n,bs.v,ss.v,pl.v] 27]) V2 w:=H.pick;refine Rel.gm (x:=y) H' hm hn ?_;clear H H';intro w B8 Yq QY H;rw[<-vw]at QY;refine wk ?_;exact⟨sB,j+1,sB,⟨aa,B8,Yq,QY,H.pick⟩,aa⟩
  clear H;rintro _ w⟨es,jv,hm,H⟩;replace H:=H.cb 5 1;replace H:Rel W V (te wb mb ⟨none,0,0⟩ es jv ⟨[],0,[]⟩++[.ax b5 [iv 0,iv 0] 31,.ax b2 [iv k,iv n,bs.v,ss.v,pl.v] 27]) V2 w:=H.pick;obtain⟨vb,hvb⟩:=Wi bP;have hw:=ais hB bP;have hR:=afM hw hB hvb;simp only[te,aL,aA]at H;refine wk ?_;refine(aih (SizeOf.sizeOf v+1) (Nat.lt_succ_self _) (hE.up hV2) H hm hp Fa (hv0.up hV2) hB hvb hw hR.left).use ?_;clear H;rintro q w⟨rfl,V3,r1,aw,H⟩;have hRr:=Room.right Fa hR;refine wk ?_;refine(oM H hm (hp.up ib.up aw) Fa hRr.head.1 hRr.head.2 (.inr (ZX hw))).use ?_;clear H;rintro q w⟨rfl,r2,H⟩;obtain⟨s2,dj⟩:∃s2,s2=gN Z ((fm v).foldl (gN Z) ⟨[],0,[]⟩) []:=⟨_,rfl⟩
  obtain⟨O,hO⟩:∃O,O=rD v Z:=⟨_,rfl⟩
  have Qe:s2.out=O:=by rw[dj,hO];rfl
  have rY:O.length<=1099511627776:=by
   have h1:=(hRr.tail Fa).1;rw[<-dj,Qe]at h1;simp only[fQ,kx,Tu,aI]at h1;omega
  rw[<-dj]at H;replace H:Rel W V (.row r2 5 1 (s2.out.flatMap aE)::[.ax wb [r2.v,iv ((s2.cnt:Nat):Int),str s2.last,.map (some mb)] 204,.ax b5 [iv 0,iv 0] 31,.ax b2 [iv k,iv n,bs.v,ss.v,pl.v] 27]) V3 w:=H.pick;rw[Qe]at H;obtain⟨V4,aG,H,tA⟩:=H.aT (λ_=>rfl) ag;have kM:=(hV2.trans aw).trans aG;have bW:∀q:O.length<=1000->gO O≠some (v,b),ct v (Bg v).isSome (l4 v b)=([],6, -2):=λq=>eS (ahB hr (by rw[<-hO];exact q));refine wk ?_;refine(Vh H.data (hE.up kM) tA rY).use ?_;rintro q w⟨V5,JI,rr,aQ,K,rfl,fF,fw⟩;(replace H:=H.az K);have cU:=kM.trans aQ;by_cases iz:1000<O.length
  ·have et:br (gO O) O.length=⟨zeroV,[],3, -1⟩:=by unfold br;rw[if_pos iz]
   rw[et];have e:=bW λh=>by omega
   obtain⟨hk,hn,fN,om,pB⟩:=JI;refine wk ?_;refine H.nA ?_;clear H;intro w iX H;refine wk ?_;refine H.nA ?_;clear H;intro w th H;refine H.wg ?_;clear H;intro _ w H;rw[e];refine wk ?_;first|(refine(u4 H.data 6 (-2)).use ?_;rintro q w⟨rfl,K⟩;(replace H:=H.az K))|skip
   refine H.wg ?_;clear H;intro w H;exact⟨V5,⟨none,0,0⟩,cU,H.sx,rfl,aB.nil _ _⟩
  cases hto:gO O with
  | none =>
   have et:br none O.length=⟨zeroV,[],21, -1⟩:=by unfold br;rw[if_neg iz]
   rw[et];have e:=bW λ_ h=>by rw[hto]at h;cases h
   obtain⟨hk,hn,fN,om,pB⟩:=JI;refine wk ?_;refine H.nA ?_;clear H;intro w iX H;refine wk ?_;refine H.nA ?_;clear H;intro w th H;refine H.wg ?_;clear H;intro _ w H;rw[e];refine wk ?_;first|(refine(u4 H.data 6 (-2)).use ?_;rintro q w⟨rfl,K⟩;(replace H:=H.az K))|skip
   refine H.wg ?_;clear H;intro w H;exact⟨V5,⟨none,0,0⟩,cU,H.sx,rfl,aB.nil _ _⟩
  | some y =>
   obtain⟨u,ur⟩:=y;have et:br (some (u,ur)) O.length=⟨u,ur,0,0⟩:=by unfold br;rw[if_neg iz]
   rw[hto,et]at fF fw;rw[et];dsimp only at fF fw |-;obtain⟨uB,uF,_⟩:=MP (show O.length<=1000 by omega) hto;have CZ:=fF;obtain⟨hk,hn,fN,om,pB⟩:=JI;refine wk ?_;refine H.nA ?_;clear H;intro w iX H;refine wk ?_;refine H.nA ?_;clear H;intro w th H;refine H.wg ?_;clear H;intro _ w H;refine(qv H.data fw (hs.up cU)).use ?_;rintro q w⟨rfl,K⟩;(replace H:=Rel.call H K);simp only[aA]at H;by_cases hc1:ur=b;rotate_left
   ·rw[decide_eq_false hc1];have e:=bW λ_ h=>hc1 (by rw[hto]at h;cases h;rfl);rw[e];refine wk ?_;first|(refine(u4 H.data 6 (-2)).use ?_;rintro q w⟨rfl,K⟩;(replace H:=H.az K))|skip
    refine H.wg ?_;clear H;intro w H;exact⟨V5,⟨none,0,0⟩,cU,H.sx,rfl,aB.nil _ _⟩
   rw[decide_eq_true hc1];refine wk ?_;refine(Ii H.data (hv0.up cU) CZ hB uB bP uF).use ?_;rintro q w⟨V6,cc,cg,K,rfl,hcc⟩;(replace H:=Rel.call H K);simp only[aA]at H;have gJ:=cU.trans cg;refine wk ?_;refine H.nA ?_;clear H;intro w wM H;by_cases hc2:cc=0;rotate_left
   ·have e:=bW λ_ h=>hc2 (hcc.2 (by rw[hto]at h;cases h;rfl));rw[e];refine H.wg ?_;clear H;intro w H;first|(refine(u4 H.data 6 (-2)).use ?_;rintro q w⟨rfl,K⟩;(replace H:=H.az K))|skip
    refine H.wg ?_;clear H;intro w H;exact⟨V6,⟨none,0,0⟩,gJ,H.sx,rfl,aB.nil _ _⟩
   have e:ct v (Bg v).isSome (l4 v b)=(O,0,0):=by
    rw[ahC hr (by rw[<-hO];omega) (by rw[<-hO,hto,hc1,hcc.1 hc2]),<-hO];unfold ct;rw[if_neg (λh=>h bP)];rfl
   rw[e];refine H.wg ?_;clear H;intro _ w H;exact⟨V6,r2,gJ,H.sx,rfl,tA.up (aQ.trans cg)⟩
end
theorem ahv(l:ad):(∃j x,j<6/\(∀i,i<j->j9 i l=none)/\j9 j l=some x)\/∀i,i<6->j9 i l=none:=by
 have key:∀n,(∃j x,j<n/\(∀i,i<j->j9 i l=none)/\j9 j l=some x)\/∀i,i<n->j9 i l=none:=by
  intro n;induction n with
  | zero=>exact .inr λi hi=>absurd hi aa
  | succ n ih =>
   rcases ih with⟨j,x,h,k⟩|h
   ·exact .inl ⟨j,x,aa,k⟩
   ·cases hn:j9 n l with
    | some x=>exact .inl ⟨n,x,aa,h,hn⟩
    | none =>
     refine .inr λi hi=>?_;rcases Nat.lt_succ_iff_lt_or_eq.1 hi with q|rfl
     ·exact h i q
     ·exact hn
 exact key 6
section
variable{V W:ae}
theorem zY{f:FuncId}{a:Array ao}{sh:Bool}{mk:fx}{l:ad}(h:oD f a W (mT W V (ct v sh mk)))(h1:(bI v).1=0)(h2:sh=true)(h3:mk=some l):oD f a W (mT W V (l,0,0)):=by
 subst h2 h3;have e:ct v true (some l)=(l,0,0):=by unfold ct;rw[if_neg (λh=>h h1)];rfl
 exact e▸h
theorem acV(u:ao):Bv Tryz.prog 58 u "scriptorium/convert.from" 398 u:=λw=>by kernel_rfl
theorem ad5(hV:Sub V W){h:VH}{s:Sl}{l:ad}(hl:l.length<=1000)(hv:bV V h (.mk 2 0 l [] []))(hs:ay V s []):aC 398 [.agg #[],fb h,s.v] W (mT W V (l,0,0)):=by
 have H:=Rel.start hV;have hv0:=hv;have ek:=hv.kind;have hby:=hv.bytes;have hsl:s.len=0:=hs.len;have hbl:=hby.len;obtain⟨k,n,bs,ss,pl⟩:=h;dsimp only[ar.kind,ar.bytes]at ek hby hbl;subst ek;change aC 398 [.agg #[],.agg [iv 2,iv n,bs.v,ss.v,pl.v].toArray,s.v] W _;refine eV Tryz.func398 33 [0,1,2,4,6,7,8,13,17,27] ?_;refine wk ?_;refine H.nA ?_;clear H;intro w b2 H;refine wk ?_;refine H.nA ?_;clear H;intro w b4 H;refine H.wg ?_;clear H;intro _ w H;refine(qe H.data hv0 (wF aa)).use ?_;rintro q w⟨rfl,K⟩;(replace H:=H.az K);rw[Nf (b:=l) aa];refine wk ?_;refine H.nA ?_;clear H;intro w b5 H;refine H.wg ?_;clear H;intro w H;refine(uU H.data hby aa).use ?_;rintro q w⟨r,rfl,K⟩;(replace H:=Rel.call H K);simp only[aL,aA]at H;obtain⟨V2,hV2,H,hr⟩:=Rel.aT H (λ_=>rfl) ag;refine H.wg ?_;clear H;intro w H;exact⟨V2,r,hV2,H.sx,rfl,hr⟩
theorem Z7(hV:Sub V W)(hT:nT V){h:VH}{s:Sl}{l:ad}(hl:l.length<=1000)(hv:bV V h (iJ l).2.1)(hs:ay V s (iJ l).2.2):aC 13 [Lc (iJ l).1 h s] W (mT W V (l,0,0)):=by
 rcases ahv l with⟨j,⟨v,b⟩,hj,hn,hx⟩|hn
 ·have e:=Og hj hn hx;have hk:(iJ l).1=RH j:=by rw[e]
  rw[e]at hv hs;rw[hk];dsimp only at hv hs;have h7:j=0\/j=1\/j=2\/j=3\/j=4\/j=5:=aa;rcases h7 with rfl|rfl|rfl|rfl|rfl|rfl
  ·obtain⟨hB,a,c,d,hr,_⟩:=UM hl hx;exact u6 hV hT ag hl hk rfl (yq _) λh9=>yw h9 λh9=>zY (aaa h9 hv hB hs aa) a c d
  ·obtain⟨hB,a,c,d,hr,_⟩:=S4 hl hx;exact u6 hV hT ag hl hk rfl (yq _) λh9=>yw h9 λh9=>zY (Z9 h9 hv hB hs aa) a c d
  ·obtain⟨hB,a,c,d,hr,_⟩:=JG hl hx;exact u6 hV hT ag hl hk rfl (yq _) λh9=>yw h9 λh9=>zY (Z8 h9 hT.mt hv hB hs aa) a c d
  ·obtain⟨hB,a,c,d,hr,_⟩:=MF hl hx;exact u6 hV hT ag hl hk rfl (yq _) λh9=>yw h9 λh9=>zY (aab h9 hT.tb hT.mb hv hB hs aa) a c d
  ·obtain⟨hB,a,c,d,hr,_⟩:=MP hl hx;exact u6 hV hT ag hl hk rfl (yq _) λh9=>yw h9 λh9=>zY (aac h9 hT.nm hv hB hs aa) a c d
  ·obtain⟨hB,a,c,d,hr,_⟩:=Vz hl hx;exact u6 hV hT ag hl hk rfl (yq _) λh9=>yw h9 λh9=>zY (PV h9 hT.tb hv hB hs aa) a c d
 ·have e:=Oh hn;have hk:(iJ l).1=0:=by rw[e]
  rw[e]at hv hs;rw[hk];exact u6 hV hT ag hl hk rfl (acV _) λh9=>ad5 h9 hl hv hs
end
theorem ab1(hT:nT W){s:Sl}{l:ad}(hs0:By W s l)(hl:l.length<=1048576):aC 5 [s.v] W λv w'=>v=.bool true/\Ext W w':=by
 have H:=Rel.start (Sub.refl W);have hs:=hs0.slf;have hlen:=hs.len;refine eV Tryz.func5 33 [0,2,3,4,5,6,8,16] ?_;refine wk ?_;refine(ZF H.data hT).use ?_;rintro q w⟨rfl,V1,hV1,K⟩;(replace H:=H.az K);refine wk ?_;refine(Hd H.data (hT.up hV1) (hs.up hV1) hl).use ?_;rintro q w⟨V2,h,r,hV2,K,rfl,hv,hr⟩;(replace H:=H.az K);have ve:=hV1.trans hV2;by_cases h1:1000<l.length
 ·have e:rP l=((0,zeroV,[]),3, -1):=if_pos h1;rw[e];dsimp only;refine wk ?_;refine H.nA ?_;clear H;intro w b5 H;refine wk ?_;refine H.nA ?_;clear H;intro w b6 H;refine H.wg ?_;clear H;intro _ w H;exact⟨by simp;omega,H.base⟩
 have e1:rP l=(iJ l,0,0):=if_neg h1;rw[e1]at hv hr |-;dsimp only at hv hr |-;refine wk ?_;refine H.nA ?_;clear H;intro w b5 H;refine wk ?_;refine H.nA ?_;clear H;intro w b6 H;refine H.wg ?_;clear H;intro _ w H;refine(Z7 H.data (hT.up ve) aa hv hr).use ?_;rintro q w⟨V3,r3,aw,K,rfl,cL⟩;(replace H:=H.az K);dsimp only at cL |-;refine wk ?_;refine H.nA ?_;clear H;intro w b7 H;refine H.wg ?_;clear H;intro w H;refine(NP H.data cL ((hs.up ve).up aw)).use ?_;rintro q w⟨rfl,K⟩;(replace H:=H.az K);rw[decide_eq_true rfl];refine wk ?_;(first|exact H.base|exact⟨ai,H.base⟩|exact⟨rfl,H.base⟩)
section
open Go Go.ChangeShapes Go.WideShapes Go.ChangeAt Go.RowKit
def Ma:Shelf.Ren:=⟨λx=>x,λx=>if x=5 then 5 else if x=119 then 258 else if x=138 then 260 else if x=139 then 261 else x,λx=>if x=3 then 0 else 1⟩
theorem ahV:U8Types Tryz.prog Ma:=⟨aj,aj,aj,aj⟩
theorem ahU:U8Extra Tryz.prog Ma:=⟨aj,aj,aj,aj,aj,aj,aj⟩
theorem ZQ:Rows.laid_unicode_utf8_first=Lib.firstData:=aj
theorem Xh:(Rows.laid_unicode_utf8_acceptRanges:DataW Unit)=Lib.acceptData:=aj
theorem acS(h:W.ShapedOpen Tryz.prog):mV W :=
 cell_of_shapedOpen_int (g:=2) (t:=3) (zero:=#[.int .i64 0]) h (of_decide_eq_true aj) aj rfl aj aj Tryz.underlying3
theorem acT(h:W.ShapedOpen Tryz.prog):s6 W :=
 cell_of_shapedOpen_int (g:=2) (t:=3) (zero:=#[.int .i64 0]) h (of_decide_eq_true aj) aj rfl aj aj Tryz.underlying3
abbrev YU:List (String×DataW Unit):=[("math/bits.deBruijn32tab",Rows.laid_math_bits_deBruijn32tab),("math/bits.deBruijn64tab",Rows.laid_math_bits_deBruijn64tab),("internal/strconv.uint64pow10",Rows.laid_internal_strconv_uint64pow10),("unicode/utf8.acceptRanges",Rows.laid_unicode_utf8_acceptRanges),("strconv.ErrRange",Rows.laid_strconv_ErrRange),("strconv.ErrSyntax",Rows.laid_strconv_ErrSyntax),("unicode/utf8.first",Rows.laid_unicode_utf8_first)]
theorem aea:(Rows.laid_internal_strconv_uint64pow10:DataW Unit)=Lib.tabData .u64 Lib.pow10Tab:=aj
theorem aeb(h:Lib.VarReads Tryz.prog W "internal/strconv.uint64pow10" (Lib.tabData .u64 Lib.pow10Tab)):Lib.TabIs Tryz.prog W "internal/strconv.uint64pow10" .u64 Lib.pow10Tab:=by
 obtain⟨g,t,cs,fuel,p,hg,ht,hv,hd⟩:=h;obtain rfl:=kX ((show Tryz.prog.globalNamed "internal/strconv.uint64pow10"=some 3 by kernel_rfl).symm.trans hg);obtain rfl:=kX ((show(Tryz.prog.globals[(3:Nat)]?).map (·.type)=some 407 by kernel_rfl).symm.trans ht);unfold Lib.TabIs;rw[hv,<-Lib.cells_of_tab Tryz.underlying407 Tryz.underlying218 aj aj hd]
theorem Pp{n:String}{g:Nat}{nm:String}{d:DataW Unit}(hg0:Tryz.prog.globalNamed n=some g)(ht0:(Tryz.prog.globals[g]?).map (·.type)=some 369)(h:Lib.VarReads Tryz.prog W n (.iface nm d)):∃t p,W.cell? ⟨g,0,none⟩=some (.iface t p):=by
 obtain⟨g',t,cs,fuel,p,hg,ht,hv,hd⟩:=h;obtain rfl:=kX (hg0.symm.trans hg);obtain rfl:=kX (ht0.symm.trans ht);obtain⟨_,u,v,hc,_⟩:=iface_of_trod Tryz.underlying369 hd;have:=World.var?_cell hg hv 0;rw[Array.eq_one_of_toList hc]at this;exact⟨u,v,by simpa using this⟩
theorem YV(h0:laidMetH Tryz.prog YU W)(hsh:W.ShapedOpen Tryz.prog):nT W:=by
 rw[MakeChecks.laidMetH_plain _ _ _ aj]at h0;have h5:=Lib.laidMet.reads h0 (n := "strconv.ErrSyntax") (d:=Rows.laid_strconv_ErrSyntax) ai;have h6:=Lib.laidMet.reads h0 (n := "strconv.ErrRange") (d:=Rows.laid_strconv_ErrRange) ai;have ha:=Lib.laidMet.reads h0 (n := "unicode/utf8.acceptRanges") (d:=Rows.laid_unicode_utf8_acceptRanges) ai;have hf:=Lib.laidMet.reads h0 (n := "unicode/utf8.first") (d:=Rows.laid_unicode_utf8_first) ai;exact⟨utf8Tabs_of_readsT (ρ:=Ma) ahV ahU (ZQ▸hf) (Xh▸ha),⟨aeb (aea▸Lib.laidMet.reads h0 ai),Pp aj aj h5,Pp aj aj h6⟩,acS hsh,acT hsh⟩
def lv0:DataW Unit->aD
 | .lit (.int k z)=>[.int k z]
 | _=>[]
def Df:DataW Unit->aD
 | .agg l=>l.flatMap lv0
 | _=>[]
def lv2:DataW Unit->aD
 | .agg l=>l.flatMap Df
 | _=>[]
def xi(l:aD):Obj->Obj
 | .cells _ t frozen=>.cells l.toArray t frozen
 | o=>o
def Po(b:Nat):aD:=[.iface 421 (.pointer (some ⟨b,0,none⟩))]
def Pn(l:ad):Obj:=.cells #[str l] 423 (0,0)
noncomputable def abX(h:Array Obj):Array Obj :=
 ((((((((h.modify 0 (xi (Df Rows.laid_unicode_utf8_first))).modify 1 (xi (lv2 Rows.laid_unicode_utf8_acceptRanges))).modify 3 (xi (Df Rows.laid_internal_strconv_uint64pow10))).modify 4 (xi (Po h.size))).modify 5 (xi (Po (h.size+1)))).modify 6 (xi (Df Rows.laid_math_bits_deBruijn32tab))).modify 7 (xi (Df Rows.laid_math_bits_deBruijn64tab))).push (Pn [105,110,118,97,108,105,100,32,115,121,110,116,97,120])).push (Pn [118,97,108,117,101,32,111,117,116,32,111,102,32,114,97,110,103,101])
noncomputable def Kx(os:Os):ae :=
 { World.holding Tryz.prog os ⟨#[],#[],[]⟩with heap:=abX (World.holding Tryz.prog os ⟨#[],#[],[]⟩).heap }
end
end Go.Proofs.YtmoiobegbpkkbaaGreatDoor
