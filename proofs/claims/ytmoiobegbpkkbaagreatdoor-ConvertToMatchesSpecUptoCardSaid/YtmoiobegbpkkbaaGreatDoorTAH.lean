import Derived.Test.YtmoiobegbpkkbaaGreatDoorTAF
import Derived.Test.YtmoiobegbpkkbaaGreatDoorRows
import Derived.WalkKit
import Derived.ProofKit
import Derived.OpenShut
import Derived.JoinedCond
import Derived.Shelf.Bytes.SlTrimWalks
import Derived.Shelf.Strconv.AtoiAll
import Derived.Shelf.Strconv.Itoa3
import Derived.Lib.AtoiErrMem
import Derived.Lib.AppendIntMem
import Derived.RecoverIn
import Derived.Lib.ValidLaws
import Derived.Shelf.Unicode.DecodeSlow
import Derived.Laws.BitsAllLaws
open Array renaming getD_eq_getD_getElem?->Jn
open Bool renaming and_eq_true->eD,eq_iff_iff->Jk
open Go.Value renaming int->bO,bool->ic
open Int renaming toNat->gR
open List renaming range->bZ,getElem?_map->ib,all_eq_true->bc,length_nil->aK,take_append_drop->eW,length_cons->aq,take_append->OR,take_of_length_le->bJ,cons_append->bb,nil_append->aL,mapM_cons->OT,length_append->ak,length_take->bg,length_drop->aU,length_singleton->bT,drop_left->kN,length->bU,take_left->tD,flatMap_cons->bD,mem_range->oG,eq_nil_of_length_eq_zero->dt,drop_eq_nil_of_le->sb,getElem?_take->BM,mem_of_getElem?->jX,getElem_mem->bS,any_eq_true->wF,set_cons_succ->fa,drop_eq_getElem_cons->dk,flatMap_append->cw,flatMap_nil->eL,perm_middle->wH,map_cons->fO,set_cons_zero->bH,length_map->aW,getElem_cons_zero->qA,dropWhile_cons->Xc,takeWhile_append_dropWhile->pE,all_cons->Xf
open Nat renaming le_refl->aQ,add_zero->ln,mul_le_mul_right->kr,zero_mul->zi,zero_add->dR,zero_le->cE,min_eq_left->tB,lt_succ_self->sj
open Option renaming map_some->gQ,bind_some->Jp,map_eq_some_iff->iB,map_map->tC,bind_eq_some_iff->Jl
open UInt8 renaming ofNat->aD,toNat_inj->bL,toNat_lt->dm
namespace Go.Proofs.YtmoiobegbpkkbaaGreatDoor
open Go Go.RowKit
set_option maxRecDepth 100000
set_option maxHeartbeats 8000000
variable{f:lG}{s:Sl}{v u:aj}{V w0 w W V0:ad}{l xs:ab}{p:Prop}{c:UInt8}{b:Addr}{P:Program}{n d:Nat}{s':RS}{x:Int}{own:cx}{env:Env}{C:Cx}{big:Bool}
section
open Go Go.RowKit Go.ChangeShapes Go.WideShapes Go.ChangeAt
section
variable{H:Type}{enc:TypeId×aj->H}{P:Program}{W W':ad}
theorem yQ{α β:Type}{f g:α->Option β}:∀ {l:List α} {ys:List β},(∀a∈l,∀y,f a=some y->g a=some y)->l.mapM f=some ys->l.mapM g=some ys
 | [],ys,_,h=>by simpa using h
 | a::l,ys,hk,h=>by
  rw[OT]at h |-;cases hf:f a with
  | none=>simp[hf]at h
  | some y =>
   cases hl:l.mapM f with
   | none=>simp[hf,hl]at h
   | some zs =>rw[hk a ah y hf,yQ (λb hb=>hk b (by simp[hb])) hl];rw[hf,hl]at h;exact h
theorem mapM_mem{α β:Type}{f:α->Option β}:∀ {l:List α} {ys:List β},l.mapM f=some ys->∀a∈l,∃y,f a=some y
 | [],_,_,a,ha=>by simp at ha
 | b::l,ys,h,a,ha=>by
  rw[OT]at h;cases hf:f b with
  | none=>simp[hf]at h
  | some y =>
   cases hl:l.mapM f with
   | none=>simp[hf,hl]at h
   | some zs =>
    rcases List.mem_cons.1 ha with rfl|ha
    ·exact⟨y,hf⟩
    exact mapM_mem hl a ha
theorem abh(hbl:∀k,k<W.heap.size->W'.heap[k]?=W.heap[k]?){a:Addr}{v:aj}(h:W.cell? a=some v):W'.cell? a=some v:=by rw[World.cell?_of_block (hbl _ (Go.World.block_lt_of_cell? _ _ h))];exact h
theorem abk(hbl:∀k,k<W.heap.size->W'.heap[k]?=W.heap[k]?){b:Nat}{a:Addr}{n:Nat}{cs:aC}(h:W.cells? b a n=some cs):W'.cells? b a n=some cs:=by
 unfold World.cells? at h |-;split at h
 ·rename_i hb;rw[ag hb];exact yQ (λi _ y hy=>abh hbl hy) h
 cases h
theorem block_add(a:Addr)(n:Nat):(a.add n).block=a.block:=by unfold Addr.add;split<;>rfl
def CY(P:Program):Bool:=(bZ P.types.size).all λt=>match P.underlying t with
 | some (.pointer e)=>decide (e<P.types.size)
 | some (.slice e)=>decide (e<P.types.size)&&decide (0<P.cellsOf e)
 | some (.struct fs)=>fs.all λf=>decide (f.type<P.types.size)
 | some (.array _ e)=>decide (e<P.types.size)
 | some (.map _ e)=>decide (e<P.types.size)
 | _=>true
theorem abG(h:CY P=true){t:TypeId}(ht:t<P.types.size):(match P.underlying t with
 | some (.pointer e)=>decide (e<P.types.size)
 | some (.slice e)=>decide (e<P.types.size)&&decide (0<P.cellsOf e)
 | some (.struct fs)=>fs.all λf=>decide (f.type<P.types.size)
 | some (.array _ e)=>decide (e<P.types.size)
 | some (.map _ e)=>decide (e<P.types.size)
 | _=>true)=true:=bc.1 h t (oG.2 ht)
theorem alk(hbl:∀k,k<W.heap.size->W'.heap[k]?=W.heap[k]?)(hpos:CY P=true){sp:Nat->Bool}(hsp:∀b,b<W.heap.size->sp b=true):∀(n:Nat) (t:TypeId) (cs:aC) (x:DataW H×List MemPlace),t<P.types.size ->
  DataW.trod enc P W 0 (λ_=>true) true n t cs=some x->DataW.trod enc P W' 0 sp true n t cs=some x:=by
 intro n;induction n with
 | zero=>intro t cs x ht h;simp[DataW.trod]at h
 | succ n ih =>
  intro t cs x ht h;have hcl:=abG hpos ht;have hel:∀(a:Addr) (m:Nat) (e:TypeId) (y:DataW H×List MemPlace),e<P.types.size->(W.cells? 0 a m).bind (DataW.trod enc P W 0 (λ_=>true) true n e)=some y->(W'.cells? 0 a m).bind (DataW.trod enc P W' 0 sp true n e)=some y:=by intro a m e y he hy;obtain⟨c,hc,hy⟩:=Jl.1 hy;rw[abk hbl hc];exact ih e c y he hy
  unfold DataW.trod at h |-;split at h
  case h_6 e a hu =>
   obtain⟨y,hy,rfl⟩:=iB.1 h;simp only[hu,eQ]at hcl;simp only[hel _ _ _ _ hcl hy,gQ]
  case h_8 e a len cap hu =>
   simp only[hu,eD,eQ]at hcl;obtain⟨kH,hcp⟩:=hcl;simp only[];split at h
   ·rename_i hcond;rw[ag hcond];obtain⟨elems,he,h⟩:=Jl.1 h;simp only[if_true]at h;obtain⟨rest,hr,hx⟩:=iB.1 h;rw[yQ (λi _ y hy=>hel _ _ _ _ kH hy) he];simp only[Jp];by_cases hs:sp a.block=true
    ·rw[ag hs,yQ (λi _ y hy=>hel _ _ _ _ kH hy) hr];simp only[gQ,hx]
    have h0:cap-len=0:=by refine Decidable.byContradiction λhne=>hs (hsp _ ?_);obtain⟨y,hy⟩:=mapM_mem hr 0 (oG.2 aa);obtain⟨c,hc,_⟩:=Jl.1 hy;unfold World.cells? at hc;rw[ag (cE _)]at hc;obtain⟨v,hv⟩:=mapM_mem hc 0 (oG.2 hcp);have:=Go.World.block_lt_of_cell? _ _ hv;rwa [block_add,block_add]at this
    rw[ae hs];rw[h0]at hr;have kf:rest=[]:=by simpa using hr.symm
    subst kf;simp only[gQ,hx]
   cases h
  case h_9 =>
   rename_i fs hu;have hcl':∀f∈fs.toList,f.type<P.types.size:=by rw[hu]at hcl;intro f hf;have:=Array.all_eq_true'.1 hcl f (by simpa using hf);simpa using this
   split at h
   ·rename_i hc;rw[ag hc];obtain⟨ys,hy,rfl⟩:=iB.1 h;rw[yQ (λi hi y hy=>ih _ _ _ (hcl' i hi) hy) hy];rfl
   cases h
  case h_10 =>
   rename_i m e hu;have hcl':e<P.types.size:=by rw[hu]at hcl;simpa using hcl
   split at h
   ·rename_i hc;rw[ag hc];obtain⟨ys,hy,rfl⟩:=iB.1 h;rw[yQ (λi _ y hy=>ih _ _ _ hcl' hy) hy];rfl
   cases h
  case h_14 k e b hu =>
   simp only[hu,eQ]at hcl;simp only[];split at h
   ·rename_i es clock hb;have hlt:=(Array.getElem?_eq_some_iff.1 hb).1;rw[hbl b hlt,hb];simp only;split at h
    ·rename_i hc;rw[ag hc];obtain⟨amD,he,h⟩:=Jl.1 h;rw[yQ (λq _ y hy=>?_) he]
     ·exact h
     obtain⟨key,hk,hy⟩:=Jl.1 hy;simp only[hk,Jp];split at hy
     ·rename_i hf;rw[ag hf];obtain⟨z,hz,rfl⟩:=iB.1 hy;rw[ih _ _ _ hcl hz];rfl
     cases hy
    cases h
   cases h
  all_goals first
   | exact h
   | (cases h;done)
   | (rename_i hu;simp only[hu];exact h)
   | (rename_i hu _;simp only[hu];exact h)
theorem YT(hbl:∀k,k<W.heap.size->W'.heap[k]?=W.heap[k]?)(hpos:CY P=true){sp:Nat->Bool}(hsp:∀b,b<W.heap.size->sp b=true):∀ {ts:List TypeId} {vs:aC} {ds:List (DataW H)} {ps:List MemPlace},(∀t∈ts,t<P.types.size) ->
  DataW.TrodAll enc P W 0 (λ_=>true) true ts vs ds ps->DataW.TrodAll enc P W' 0 sp true ts vs ds ps
 | [],[],[],_,_,h=>h
 | t::ts,v::vs,d::ds,ps,ht,⟨p,q,⟨n,h1⟩,h2,e⟩=>⟨p,q,⟨n,alk hbl hpos hsp n t _ _ (ht t ah) h1⟩,YT hbl hpos hsp (λu hu=>ht u (by simp[hu])) h2,e⟩
 | [],[],_::_,_,_,h=>h.elim
 | [],_::_,_,_,_,h=>by cases ‹List (DataW H)›<;>exact h.elim
 | _::_,[],_,_,_,h=>by cases ‹List (DataW H)›<;>exact h.elim
 | _::_,_::_,[],_,_,h=>h.elim
theorem afl{may:MemPlace->Prop}(hE:Ext W W'):W.keptBut W' may:=by
 refine⟨hE.os,hE.output,λi hi=>?_⟩;rw[hE.block i hi];split
 ·rename_i c t fr c' t' fr' h1 h2;rw[h1]at h2;cases h2;exact⟨rfl,rfl,rfl,λ_ _=>rfl⟩
 ·rename_i es cl es' cl' h1 h2;rw[h1]at h2;cases h2;exact .inr ⟨rfl,rfl⟩
 rfl
theorem afq{f:Func}{s:ChangeSpec}{apart:Bool}{args:Array aj}{ds gs:List (DataW H)}{before:List MemPlace}(hW:DataW.Whole enc P f.params.toList s.vars apart W args.toList ds gs before)(hvars:s.vars=[])
  (hE:Ext W W') (hpos:CY P=true) (hpar:(f.params.toList.all λt=>decide (t<P.types.size))=true) {tb:TypeId} (hres:f.resultTypes=#[tb]) (htb:P.underlying tb=some .bool) (hv:v=.bool true)
  (hfn:s.fn H (ds++gs)={ results:=[.lit (.bool true)],args:=ds }):s.post enc P f apart true false false W args v W':=by
 subst hv;have Ml:=hW;obtain⟨p,q,hA,hV,rfl,_,_⟩:=hW;rw[hvars]at hV;obtain⟨rfl,rfl⟩:=trodVars_none hV;refine⟨ds,[],p++[],[],p,[],Ml,?_,?_,?_,afl hE,λh=>by cases h⟩
 ·rw[hfn,hres];exact trodAll_cons_mk (shut_bool htb true) trodAll_mk0
 ·rw[hfn];exact YT hE.block hpos (λb hb=>by simpa using hb) (λt ht=>by simpa using bc.1 hpar t ht) hA
 rw[hfn,hvars];exact rfl
theorem aa9(k:IntKind)(l:List Int):Rows.uptoBulkAll (lits (H:=H) k l)=l.length:=by
 induction l with
 | nil=>rfl
 | cons x l ih =>simp only[lits,fO,Rows.uptoBulkAll,Rows.uptoBulk,aq]at ih |-;omega
theorem ag0{t e:TypeId}(ht:P.underlying t=some (.slice e))(he:P.underlying e=some (.int .u8))(hc:P.cellsOf e=1){r:Reach}{b0:Nat}{v:aj}{d:DataW H}{ps:List MemPlace}
  (hval:Value.okWide P W r b0 t v) (hd:DataW.Trod enc P W 0 (λ_=>true) true t v d ps):∃(s:Sl) (l:ab),v=s.v/\By W s l/\l.length<=Rows.uptoBulk d:=by
 obtain⟨a,len,cap,rfl⟩:=okWide_slice ht hval;obtain⟨fuel,hf⟩:=hd;rcases open_ints ht he hc hf with⟨h1,h2⟩|⟨a',anm,amB,zs,h1,_,hle,am0,tn,hx,hcell,hwf⟩
 ·simp only[Value.cells,List.cons.injEq,Go.Value.slice.injEq,and_true]at h1;obtain⟨rfl,rfl,rfl⟩:=h1;exact⟨⟨none,0,0⟩,[],rfl,⟨rfl,⟨λh=>absurd rfl h,λj v hj=>by simp at hj⟩,aQ _⟩,cE _⟩
 simp only[Value.cells,List.cons.injEq,Go.Value.slice.injEq,and_true]at h1;obtain⟨rfl,rfl,rfl⟩:=h1;simp only[if_true]at tn;simp only[Prod.mk.injEq]at hx;obtain⟨rfl,_⟩:=hx;have hb:∀n∈zs,0<=n/\n<256:=by intro n hn;have:=hwf n hn;simp only[Lit.wf,eD,eQ]at this;have h1:IntKind.u8.min=0:=ai;have h2:IntKind.u8.max=255:=ai;omega
 have hbv:∀n,0<=n->n<256->bv (aD n.toNat)=.int .u8 n:=by intro n h0 h1;simp only[bv,UInt8.toNat_ofNat'];congr 1;omega
 refine⟨⟨some a',len,cap⟩,(zs.take len).map λn=>aD n.toNat,rfl,⟨by simp;omega,?_,hle⟩,?_⟩
 ·have hj:∀(j:Nat) (v:aj),(((zs.take len).map λn=>aD n.toNat).map bv)[j]?=some v->W.cell? (a'.add j)=some v:=by
   intro j v hv;simp only[List.map_map,ib,iB,Function.comp]at hv;obtain⟨n,hn,rfl⟩:=hv;rw[BM]at hn;split at hn
   ·have hmem:=jX hn;have hlt:=(List.getElem?_eq_some_iff.1 hn).1;have:=hcell j hlt;rw[hbv n (hb n hmem).1 (hb n hmem).2,this];simp[List.getD,hn]
   cases hn
  have hpl:((zs.take len).map λn=>aD n.toNat).map bv≠[]->a'=⟨a'.block,a'.off,none⟩:=by
   intro hne;obtain⟨v,r,hvr⟩:=List.exists_cons_of_ne_nil hne;have h0:=hj 0 v (by rw[hvr];rfl);simp only[Addr.add,if_true]at h0;have hsp:a'.spot=none:=by
    unfold World.cell? at h0;split at h0
    ·split at h0
     ·cases h0
     rename_i hn;simpa using hn
    cases h0
   cases a';simp at hsp;subst hsp;rfl
  refine⟨λhne=>by rw[Plain];exact ax some (hpl hne),λj v hv=>?_⟩;have:=hj j v hv;rw[hpl (by intro e;rw[e]at hv;simp at hv),addr_add]at this;exact this
 simp only[Rows.uptoBulk,aa9,aW];omega
end
end
section
open Go Go.RowKit Go.Shelf
theorem aF.dr(h:aF V s l){k:Nat}(hk:k<=l.length):aF V ⟨bo s.a k s.cap 1,s.len-k,s.cap-k⟩ (l.drop k):=by have:=aA.sub h (n:=1) (λ_=>rfl) (a:=k) (b:=l.length) hk (aQ _);rw[List.take_length]at this;rw[h.len];exact this
theorem aF.tk(h:aF V s l){k:Nat}(hk:k<=l.length):aF V ⟨bo s.a 0 s.cap 1,k-0,s.cap-0⟩ (l.take k):=aA.sub h (n:=1) (λ_=>rfl) (a:=0) (b:=k) (cE _) hk
theorem aF.tk3(h:aF V s l){k:Nat}(hk:k<=l.length):aF V ⟨bo s.a 0 k 1,k-0,k-0⟩ (l.take k):=by
 refine⟨by simp;omega,aQ _,λhne=>?_,λj v hj=>?_⟩
 ·have hp:Plain s.a:=h.cells.1 (λe=>hne (by
   have:l=[]:=by cases l with
    | nil=>rfl
    | cons c r=>simp at e
   rw[this];simp))
  exact(zx hp:Plain (bo s.a 0 k 1))
 have A5:(l.flatMap aI)[j]?=some v:=by
  have:=S9 (f:=aI) (n:=1) (l:=l) (λ_=>rfl) k;rw[<-this,BM]at hj;split at hj
  ·exact hj
  cases hj
 have hp:Plain s.a:=h.cells.1 (λe=>by rw[e]at A5;simp at A5);have hc:=h.cells.2 j v A5;have ho:bM (bo s.a 0 k 1)=bM s.a:=by
  by_cases hz:k=0
  ·unfold bo;rw[ag hz]
  rw[zw hp hz,zi,ln]
 show V.cell? ⟨bW (bo s.a 0 k 1),bM (bo s.a 0 k 1)+j,none⟩=some v;rw[zv,ho];exact hc
def wR(cs:ab):aC:=(bZ 256).map λj=>ic (cs.contains (aD j))
theorem aj1(cs:ab)(x:UInt8):(wR cs)[x.toNat]?=some (.bool (cs.contains x)):=by unfold wR;rw[ib,List.getElem?_range x.toNat_lt];simp
def ai7:Shelf.Ren:=⟨λ_=>295,λx=>if x=0 then 0 else if x=3 then 3 else if x=4 then 4 else if x=5 then 5 else if x=9 then 9 else if x=27 then 349 else x,λx=>x⟩
theorem afu:SlLaysV.n11 Tryz.prog ai7 where
 mixed:=av
 f11:=Tryz.func295.trans (ax some av)
 t0:=Tryz.underlying0
 a0:=Tryz.isAgg0
 z0:=Tryz.sizeOf0
 v0:=Tryz.zeroValue0
 t3:=Tryz.underlying3
 a3:=Tryz.isAgg3
 z3:=Tryz.sizeOf3
 v3:=Tryz.zeroValue3
 t4:=Tryz.underlying4
 a4:=Tryz.isAgg4
 z4:=Tryz.sizeOf4
 v4:=Tryz.zeroValue4
 t5:=Tryz.underlying5
 a5:=Tryz.isAgg5
 z5:=Tryz.sizeOf5
 v5:=Tryz.zeroValue5
 t9:=Tryz.underlying9
 a9:=Tryz.isAgg9
 z9:=Tryz.sizeOf9
 v9:=Tryz.zeroValue9
 t27:=Tryz.underlying349
 a27:=Tryz.isAgg349
 z27:=Tryz.sizeOf349
theorem aj2(hV:Sub V W){cs:ab}(hcs:∀b∈cs,b.toNat<128)(hl:cs.length<1000):aB 295 [str cs] W λv w'=>v=.tuple #[.agg (wR cs).toArray,.bool true]/\Rel W V [] V w':=by
 have h:=Any.bytes_makeASCIISet afu (λw=>by kernel_rfl) av ⟨cs.toArray⟩ W (by show cs.toArray.size<_;simp;omega) (λj b hb=>hcs b (jX (by simpa using hb)));have e:Lib.setCells (⟨cs.toArray⟩:ByteArray).data.toList=(wR cs).toArray:=by rw[Lib.setCells_eq];unfold wR;apply Array.ext';simp
 rw[e]at h;exact fY.uT Tryz.func295 av av (Calls.nD h λe w' ⟨he,hw⟩=>⟨_,he,rfl,by rw[hw];exact((aG hV).newObj _).pY⟩)
theorem aeZ(hV:Sub V W){b:Nat}{cs:ab}(hb:dN V b (wR cs) 349)(x:UInt8):aB 319 [.pointer (some ⟨b,0,none⟩),bv x] W λv w'=>v=.bool (cs.contains x)/\Rel W V [] V w':=by have H:=aG hV;have h1:=hb.cS (aj1 cs x);have rJ:=x.toNat_lt;refine eV Tryz.func319 10 [0,1,4] ?_;refine wk ?_;rw[show x.toNat=placeOf 0 ((x.toNat:Nat):Int).toNat 1 by simp[placeOf]]at h1;refine⟨_,H.Aw h1,?_⟩;refine wk ?_;exact H
theorem alh(hV:Sub V W){b:Nat}{cs:ab}(hb:dN V b (wR cs) 349){s:Sl}{l:ab}(hs:aF V s l)(_:l.length<=1099511627776):aB 296 [s.v,.pointer (some ⟨b,0,none⟩)] W λv w'=>(∃r:Sl,v=r.v/\∀U,aF U s l->aF U r (l.dropWhile λc=>cs.contains c))/\Rel W V [] V w':=by
 have H:=aG hV;have hlen:=hs.len;refine eV Tryz.func296 20 [0,1,4,7,13,18] ?_;refine wk ?_;refine aM.cut 0 (λr:Sl=>[(0,r.v)]) (λr w'=>(∀U,aF U s l->aF U r (l.dropWhile λc=>cs.contains c))/\Rel W V [] V w') ?_ ?_
 ·refine aP (S:=Sl) al [1,4,18] (λk=>[(0,k.v)]) (λk w'=>(∃m,(∀U,aF U s l->aF U k m)/\m.length<=l.length/\m.dropWhile (λc=>cs.contains c)=l.dropWhile (λc=>cs.contains c))/\Rel W V [] V w') (λk _=>k.len) s ?_;conv=>whnf
  refine⟨sB,⟨⟨l,λ_ h=>h,aQ _,rfl⟩,H⟩,?_⟩;clear H;rintro r w⟨⟨m,hr',jS,hm⟩,H⟩;have hr:=hr' V hs;have hrl:=hr.len;cases m with
  | nil =>have kf:r.len=0:=hrl;refine wk ?_;refine⟨r,sB,?_,H⟩;rw[<-hm];exact hr'
  | cons x m =>
   rw[aq]at hrl;obtain⟨p0,c0⟩:=hr.aR (g:=bv) (λ_=>rfl) (show 0<(x::m).length by simp);rw[qA]at c0;refine wk (H.us (aeZ H.data hb x) ?_);intro w H;cases hx:cs.contains x with
   | false =>
    have e:(x::m).dropWhile (λc=>cs.contains c)=x::m:=by rw[Xc,ae (by rw[hx];decide)]
    rw[e]at hm;refine wk ?_;refine⟨r,sB,?_,H.sx⟩;rw[<-hm];exact hr'
   | true =>
    have e:(x::m).dropWhile (λc=>cs.contains c)=m.dropWhile (λc=>cs.contains c):=by rw[Xc,ag hx]
    rw[e]at hm;refine wk ?_;exact⟨sB,_,sB,⟨⟨m,λU hU=>(hr' U hU).dr (k:=1) ah,by simp at jS |-;omega,hm⟩,H.sx⟩,by dsimp only;omega⟩
 clear H;rintro r w⟨hr,H⟩;have hrl:=(hr V hs).len;by_cases h0:r.len=0
 ·refine wk ?_;refine⟨⟨⟨none,0,0⟩,rfl,λU _=>?_⟩,H.sx⟩;rw[dt (hrl.symm.trans h0)];exact aA.nil _ _
 refine wk ?_;exact⟨⟨r,rfl,hr⟩,H.sx⟩
theorem P1(hV:Sub V W){s:Sl}{l:ab}(hs:aF V s l)(hl:l.length<=1099511627776){cs:ab}(hcs:∀b∈cs,b.toNat<128)(h1:2<=cs.length)(h2:cs.length<1000):aB 250 [s.v,str cs] W λv w'=>(∃r:Sl,v=r.v/\aF V r (l.dropWhile λc=>cs.contains c))/\Rel W V [] V w':=by
 have H:=aG hV;have hlen:=hs.len;have hsz:(ByteArray.mk cs.toArray).size=cs.length:=rfl;refine eV Tryz.func250 36 [0,1,4,5,6,9,11,20,30] ?_;by_cases h0:s.len=0
 ·refine wk ?_;refine⟨⟨⟨none,0,0⟩,rfl,?_⟩,H.sx⟩;rw[dt (hlen.symm.trans h0)];exact aA.nil _ _
 refine wk ?_;refine gj (λh=>?_) (λ_=>?_)
 ·rw[h]at h1;simp at h1
 refine wk (H.us (aj2 H.data hcs h2) ?_);intro w H;refine H.wn ?_;intro w b5 H;refine H.wh ?_;intro w H;replace H:=H.cB (c':=wR cs) bX;obtain⟨V2,hV2,H,hb5⟩:=H.cU;refine wk ((alh H.data hb5 (hs.up hV2) hl).use ?_);rintro v w⟨⟨r,rfl,hr⟩,K⟩;replace H:=H.bd K;refine wk ?_;exact⟨⟨r,rfl,hr V hs⟩,H.sx.less (aS _) hV2⟩
end
abbrev mV:=Int×Sl
abbrev oW(x:mV):aC:=[iv x.1,x.2.v]
abbrev pK(V:ad)(x:mV)(y:kG):Prop:=x.1=((y.1:Nat):Int)/\aF V x.2 y.2
theorem pK.up(V V':ad)(x:mV)(y:kG)(hs:Sub V V')(h:pK V x y):pK V' x y:=⟨h.1,h.2.up hs⟩
abbrev fE(rb:Nat)(r o:Sl)(hs:List mV)(s:RS):cx:=[.ay rb [r.v,iv ((s.cnt:Nat):Int),str s.last,o.v] 303,.row o 206 2 (hs.flatMap oW)]
structure mu(N:Nat)(V:ad)(r:Sl)(hs:List mV)(s:RS):Prop where
 rest:aF V r s.rest
 ia:Pw pK V hs s.ia
 cnt:s.cnt+s.rest.length<=N
 ol:s.ia.length<=s.cnt
theorem mu.up{N:Nat}{V V':ad}{r:Sl}{hs:List mV}{s:RS}(h:mu N V r hs s)(k:Sub V V'):mu N V' r hs s:=⟨h.rest.up k,h.ia.up pK.up k,h.cnt,h.ol⟩
structure tW(w0 V0:ad)(rb:Nat)(own:cx)(N:Nat)(V:ad)(s:RS)(E:ad->Prop)(w:ad):Prop where
 ex:∃(V':ad) (r o:Sl) (hs:List mV),Sub V V'/\mu N V' r hs s/\E V'/\Rel w0 V0 (fE rb r o hs s++own) V' w
abbrev Cy:PanicEntry:={ v:=.iface 367 (.agg #[]),recovered:=false }
structure mU(w0:ad)(p:Prop)(ch:List PanicEntry)(w:ad):Prop where
 why:p
 ch:ch=[Cy]
 ext:Ext w0 w
theorem mU.mono{q:Prop}{ch:List PanicEntry}(h:mU w0 p ch w)(hpq:p->q):mU w0 q ch w:=⟨hpq h.why,h.ch,h.ext⟩
theorem rN{k:aj->ad->Prop}(hk:k (.iface 367 (.agg #[])) w):bE Tryz.prog (Instr.makeInterface 367 (.agg #[])) w k:=.of av hk
theorem Q8:(λc=>([32,9,13,10]:ab).contains c)=bB:=by funext c;simp[bB,Bool.or_assoc]
def NV:ab:=[97,98,99,100,101,102,103,104,105,106,107,108,109,110,111,112,113,114,115,116,117,118,119,120,121,122,48,49,50,51,52,53,54,55,56,57,45,95,46]
theorem agB:(λc=>NV.contains c)=lN:=by funext c;have key:∀n:Fin 256,NV.contains (aD n.val)=lN (aD n.val):=ai;have:=key ⟨c.toNat,c.toNat_lt⟩;simpa using this
section
variable{w0 V0 V w:ad}{own:cx}{rb N:Nat}{r o:Sl}{hs:List mV}{s:RS}
theorem Yd(H:Rel w0 V0 (fE rb r o hs s++own) V w)(hR:mu N V r hs s)(hN:N<=5000)(e:Bool):aB 245 [.pointer (some ⟨rb,0,none⟩),.bool e] w λq w'=>q=.tuple #[]/\tW w0 V0 rb own (N+1) V (sK (if e=true then[10]else ju (af s.last)) s) (λ_=>True) w':=by
 have hlen:=hR.rest.len;have og:=hR.rest.cap;have oh:=hR.cnt;have dF:=hR.ol;have hoth:=hR.ia.len;obtain⟨n,hn⟩:∃n,n=(s.rest.takeWhile bB).length:=⟨_,rfl⟩
 have qj:s.rest.length=n+(s.rest.dropWhile bB).length:=by
  conv=>lhs;rw[<-pE (p:=bB) (l:=s.rest)]
  rw[ak,hn]
 have jV:s.rest.take n=s.rest.takeWhile bB:=by
  conv=>lhs;rw[<-pE (p:=bB) (l:=s.rest),hn]
  rw[tD]
 have eT:s.rest.drop n=s.rest.dropWhile bB:=by
  conv=>lhs;rw[<-pE (p:=bB) (l:=s.rest),hn]
  rw[kN]
 obtain⟨want,hw⟩:∃want:ab,want=if e=true then[10]else ju (af s.last):=⟨_,rfl⟩
 rw[<-hw];have hcut:=hR.rest.tk (k:=n) aa;have TV:=hR.rest.tk3 (k:=n) aa;rw[jV]at hcut TV;simp only[fE,bb,aL]at H;refine nX al Tryz.func245 rfl av 82 rfl ah [0,1,4,5,18,20,41] ?_;refine aM.cA al ?_;refine wk ?_;refine dV 0 [9] [0,1,2,3,4,5,6,7,8,9,10,11,12] H ?_;intro w H;refine wk ?_;refine(P1 H.data hR.rest aa (cs:=[32,9,13,10]) ai ai ai).use ?_;rintro v w⟨⟨t,rfl,ht⟩,K⟩;replace H:=H.bd K;rw[Q8]at ht;have htl:=ht.len;refine wk ?_;rw[show(r.len:Int)-t.len=(n:Int)by omega];refine wk ?_;refine aM.cA al ?_;refine wk ?_;refine aM.lq al (λ_:Unit=>[(0,.pointer (some ⟨rb,0,none⟩)),(4,iv (n:Int)),(5,str want)]) (λ_ w'=>Rel w0 V0 (.ay rb [r.v,iv ((s.cnt:Nat):Int),str s.last,o.v] 303::.row o 206 2 (hs.flatMap oW)::own) V w') ?_ ?_
 ·cases e with
  | true =>obtain rfl:want=[10]:=hw;refine wk ?_;exact⟨(),sB,H⟩
  | false =>
   rw[ae ai]at hw;by_cases h1:s.last=[44]
   ·obtain rfl:want=[32]:=by rw[hw,h1];rfl
    rw[h1]at H |-;refine wk ?_;exact⟨(),sB,H⟩
   by_cases h2:s.last=[58]
   ·obtain rfl:want=[32]:=by rw[hw,h2];rfl
    rw[h2]at H |-;refine wk ?_;exact⟨(),sB,H⟩
   obtain rfl:want=[]:=by rw[hw,show af s.last=false by simp[af,h1,h2]];rfl
   refine wk ?_;refine C1 (bA h1) ?_;refine wk ?_;refine C1 (bA h2) ?_;refine wk ?_;exact⟨(),sB,H⟩
 clear H;rintro _ w H;refine aM.lq al (λ_:Unit=>[(0,.pointer (some ⟨rb,0,none⟩)),(4,iv (n:Int))]) (λ_ w'=>∃(o':Sl) (hs':List mV),Pw pK V hs' (if s.rest.takeWhile bB=want then s.ia else s.ia++[(s.cnt,s.rest.takeWhile bB)])/\Rel w0 V0 (.ay rb [r.v,iv ((s.cnt:Nat):Int),str s.last,o'.v] 303::.row o' 206 2 (hs'.flatMap oW)::own) V w') ?_ ?_
 ·refine wk ?_;refine⟨iu _▸(hcut.up H.data).cells,?_⟩;refine wk ?_;refine qX (λhne=>?_) (λheq=>?_)
  ·refine wk ?_;refine dV 7 [17] [0,1,2,3,4,5,6,7,8,9,10,11,12,13,14,15,16,17,18,19,20,21] H ?_;intro w H;refine H.wn ?_;intro w b59 H;refine wk ?_;refine Rel.eH (f:=oW) (s:=o) (l:=hs) (x:=(((s.cnt:Nat):Int),(⟨bo r.a 0 n 1,n-0,n-0⟩:Sl))) rfl (λ_=>rfl) (by simp[Value.oneCell']) H (by show(hs.length+1)*32<=_;omega) aa ?_;intro o' w H;refine H.wg ?_;intro w H;refine⟨(),sB,o',_,?_,H⟩;rw[ae hne];exact hR.ia.snoc ⟨rfl,TV⟩
  refine wk ?_;refine⟨(),sB,o,hs,?_,H⟩;rw[ag heq];exact hR.ia
 clear H;rintro _ w⟨o',hs',vK,H⟩;refine aM.go al ?_;refine H.wg ?_;intro _ _ w H;have hd:=hR.rest.dr (k:=n) aa;rw[eT]at hd;refine⟨V,_,o',hs',aS _,⟨hd,vK,?_,?_⟩,trivial,H⟩
 ·show s.cnt+1+(s.rest.dropWhile bB).length<=_;omega
 show(if s.rest.takeWhile bB=want then s.ia else s.ia++[(s.cnt,s.rest.takeWhile bB)]).length<=s.cnt+1;split
 ·omega
 rw[ak,bT];omega
theorem IX(H:Rel w0 V0 (fE rb r o hs s++own) V w)(hR:mu N V r hs s)(hN:N<=5000):cR Tryz.prog 286 [.pointer (some ⟨rb,0,none⟩)].toArray w (λq w'=>(∃c,pk s=some c/\q=bv c)/\Rel w0 V0 (fE rb r o hs s++own) V w') (mU w0 (pk s=none)):=by
 have hlen:=hR.rest.len;have oh:=hR.cnt;simp only[fE,bb,aL]at H;refine eV Tryz.func286 17 [0,2,3,11] ?_;refine wk ?_;refine(P1 H.data hR.rest aa (cs:=[32,9,13,10]) ai ai ai).use ?_;rintro v w⟨⟨t,rfl,ht⟩,K⟩;replace H:=H.bd K;rw[Q8]at ht;have htl:=ht.len;cases hd:s.rest.dropWhile bB with
 | nil =>
  have h0:t.len=0:=by rw[htl,hd];rfl
  refine wk ?_;refine rN ?_;refine wk ?_;exact⟨by unfold pk;rw[hd];rfl,rfl,H.base⟩
 | cons c x =>rw[hd]at ht htl;rw[aq]at htl;obtain⟨p0,c0⟩:=ht.aR (g:=bv) (λ_=>rfl) (show 0<(c::x).length by simp);rw[qA]at c0;refine wk ?_;exact⟨⟨c,by unfold pk;rw[hd];rfl,rfl⟩,H.sx⟩
theorem JQ(H:Rel w0 V0 (fE rb r o hs s++own) V w)(hR:mu N V r hs s)(hN:N<=5000):aB 245 [.pointer (some ⟨rb,0,none⟩),.bool false] w λq w'=>q=.tuple #[]/\tW w0 V0 rb own (N+1) V (ik s) (λ_=>True) w':=Yd H hR hN false
theorem acA(h:c.toNat<128):Utf8.encode (wr .i32 ((c.toNat:Nat):Int))=⟨[c].toArray⟩:=by
 have key:∀n:Fin 128,Utf8.encode (wr .i32 (((aD n.val).toNat:Nat):Int))=⟨[aD n.val].toArray⟩:=by decide +kernel
 have:=key ⟨c.toNat,h⟩;simpa using this
theorem I1(h:pk s=some c):∃t,s.rest.dropWhile bB=c::t/\t.length+1<=s.rest.length:=by
 unfold pk at h;have qj:s.rest.length=(s.rest.takeWhile bB).length+(s.rest.dropWhile bB).length:=by
  conv=>lhs;rw[<-pE (p:=bB) (l:=s.rest)]
  rw[ak]
 cases hd:s.rest.dropWhile bB with
 | nil=>rw[hd]at h;cases h
 | cons x t =>rw[hd]at h qj;cases h;rw[aq]at qj;exact⟨t,rfl,aa⟩
theorem Yb(H:Rel w0 V0 (fE rb r o hs s++own) V w)(hR:mu N V r hs s)(hN:N<=5000){c:UInt8}(hc:c.toNat<128):cR Tryz.prog 292 [.pointer (some ⟨rb,0,none⟩),bv c].toArray w (λq w'=>q=.tuple #[]/\∃s',kP c s=some s'/\tW w0 V0 rb own N V s' (λ_=>True) w') (mU w0 (kP c s=none)):=by
 have oh:=hR.cnt;refine eV Tryz.func292 26 [0,1,7] ?_;refine wk ?_;refine cR.mono (IX H hR hN) ?_ (λch w' h=>h.mono λh=>by unfold kP;rw[h];rfl);clear H;rintro v w⟨⟨x,hx,rfl⟩,H⟩;refine wk ?_;refine gj (λhne=>?_) (λheq=>?_)
 ·refine wk ?_;refine rN ?_;refine wk ?_;refine⟨?_,rfl,H.base⟩;unfold kP;rw[ae];intro h;rw[hx]at h;cases h;exact hne rfl
 obtain rfl:x=c:=bL.1 aa;obtain⟨t,ht,htl⟩:=I1 hx;have e:kP x s=some { ik s with last:=[x],rest:=t }:=by unfold kP;rw[ag hx,ht];rfl
 refine wk ((JQ H hR hN).use ?_);clear H;rintro v w⟨rfl,V1,r1,o1,hs1,hV1,iM,_,H⟩;have hr1:=iM.rest;rw[show(ik s).rest=x::t from ht]at hr1;have hl1:=hr1.len;have hc1:=hr1.cap;rw[aq]at hl1;simp only[fE,bb,aL]at H;refine wk ?_;refine Rel.K0 av av ?_;rw[acA hc];refine H.wg ?_;intro _ w H;refine⟨V1,_,o1,hs1,hV1,⟨hr1.dr (k:=1) ah,iM.ia,?_,iM.ol⟩,trivial,H⟩;show s.cnt+1+t.length<=N;omega
theorem FP(H:Rel w0 V0 (fE rb r o hs s++own) V w)(hR:mu N V r hs s)(_:N<=6000):cR Tryz.prog 315 [.pointer (some ⟨rb,0,none⟩)].toArray w (λq w'=>∃c t,s.rest=c::t/\q=bv c/\tW w0 V0 rb own N V { s with rest:=t } (λ_=>True) w') (mU w0 (s.rest=[])):=by
 have oh:=hR.cnt;have hlen:=hR.rest.len;have og:=hR.rest.cap;simp only[fE,bb,aL]at H;refine eV Tryz.func315 27 [0,2,3,9] ?_;cases hd:s.rest with
 | nil =>
  have h0:r.len=0:=by rw[hlen,hd];rfl
  refine wk ?_;refine rN ?_;refine wk ?_;exact⟨rfl,rfl,H.base⟩
 | cons c t =>have hr:=hR.rest;rw[hd]at hr hlen;rw[aq]at hlen;obtain⟨p0,c0⟩:=hr.aR (g:=bv) (λ_=>rfl) (show 0<(c::t).length by simp);rw[qA]at c0;refine H.wg ?_;intro w H;refine⟨c,t,rfl,rfl,V,_,o,hs,aS _,⟨hr.dr (k:=1) ah,hR.ia,?_,hR.ol⟩,trivial,H⟩;rw[hd,aq]at oh;show s.cnt+t.length<=N;omega
theorem Yn(hV:Sub V W)(c:UInt8):aB 299 [bv c] W λv w'=>v=.bool (kS c)/\Rel W V [] V w':=by
 have H:=aG hV;have h8:=c.toNat_lt;refine eV Tryz.func299 9 [0,2] ?_;by_cases h1:c.toNat<32
 ·refine wk ?_;exact⟨by simp[kS,h1],H⟩
 refine wk ?_;refine⟨ax ic ?_,H⟩;rw[Jk];simp[kS];omega
abbrev A2:ab:=[48,49,50,51,52,53,54,55,56,57,97,98,99,100,101,102]
theorem T9(c:UInt8):Lib.indexByte A2 c=(match kI c with|some n=>((n:Nat):Int)|none => -1):=by have key:∀n:Fin 256,Lib.indexByte A2 (aD n.val)=(match kI (aD n.val)with|some n=>((n:Nat):Int)|none => -1):=ai;have:=key ⟨c.toNat,c.toNat_lt⟩;simpa using this
theorem We{a b:Nat}(ha:a<16)(hb:b<16):wr .u8 (cI BinOp.or .i64 ((16*a:Nat):Int) ((b:Nat):Int))=(((aD (16*a+b)).toNat:Nat):Int):=by
 have key:∀a b:Fin 16,wr .u8 (cI BinOp.or .i64 ((16*a.val:Nat):Int) ((b.val:Nat):Int))=(((aD (16*a.val+b.val)).toNat:Nat):Int):=by decide +kernel
 exact key ⟨a,ha⟩ ⟨b,hb⟩
theorem acS(H:Rel w0 V0 (fE rb r o hs s++own) V w)(hR:mu N V r hs s)(hN:N<=6000):cR Tryz.prog 316 [.pointer (some ⟨rb,0,none⟩)].toArray w (λq w'=>∃d t,xI s.rest=some (d,t)/\q=bv d/\tW w0 V0 rb own N V { s with rest:=t } (λ_=>True) w') (mU w0 (xI s.rest=none)):=by
 refine eV Tryz.func316 47 [0,2,3,4,5,13,16,39] ?_;refine wk ?_;refine cR.mono (FP H hR hN) ?_ (λch w' h=>h.mono λh=>by rw[h];rfl);clear H;rintro v w⟨c,t,x9,rfl,V1,r1,o1,hs1,hV1,iM,_,H⟩;have ux:=c.toNat_lt;rw[x9,Ha];by_cases h1:c=34\/c=92
 ·rw[ag h1];have h1':c.toNat=34\/c.toNat=92:=by rcases h1 with rfl|rfl<;>simp
  rcases h1' with h1'|h1'
  ·refine wk ?_;exact⟨c,t,rfl,rfl,V1,r1,o1,hs1,hV1,iM,trivial,H⟩
  refine wk ?_;exact⟨c,t,rfl,rfl,V1,r1,o1,hs1,hV1,iM,trivial,H⟩
 rw[ae h1];have Tl:c.toNat≠34:=λe=>h1 (.inl (bL.1 e));have LZ:c.toNat≠92:=λe=>h1 (.inr (bL.1 e));by_cases h2:c=120;rotate_left
 ·rw[ag h2];have Dj:c.toNat≠120:=λe=>h2 (bL.1 e);refine wk ?_;refine rN ?_;refine wk ?_;exact⟨rfl,rfl,H.base⟩
 rw[ae (by simpa using h2)];subst h2;refine wk ?_;refine cR.mono (FP H iM hN) ?_ (λch w' h=>⟨by have h:=h.why;dsimp only at h;rw[h],h.ch,h.ext⟩);clear H;rintro v w⟨x,t1,po,rfl,V2,r2,o2,dG,hV2,ga,_,H⟩;dsimp only at po;rw[po];refine wk ((Bg A2 _ _).use ?_);rintro v w⟨rfl,rfl⟩;refine wk ?_;refine cR.mono (FP H ga hN) ?_ (λch w' h=>⟨by have h:=h.why;dsimp only at h;rw[h],h.ch,h.ext⟩);clear H;rintro v w⟨y,t2,jG,rfl,V3,r3,o3,Nj,aw,xR,_,H⟩;dsimp only at jG;rw[jG];refine wk ((Bg A2 _ _).use ?_);rintro v w⟨rfl,rfl⟩;have ex:(((x.toNat:Nat):Int).toNat).toUInt8=x:=ah;have ey:(((y.toNat:Nat):Int).toNat).toUInt8=y:=ah;rw[ex,ey,T9,T9];cases ha:kI x with
 | none =>refine wk ?_;refine rN ?_;refine wk ?_;exact⟨by simp only[ha],rfl,H.base⟩
 | some a =>
  cases hb:kI y with
  | none =>refine wk ?_;refine rN ?_;refine wk ?_;exact⟨by simp only[ha,hb],rfl,H.base⟩
  | some b =>
   obtain⟨a1,_⟩:=vP ha;obtain⟨b1,_⟩:=vP hb;have e4:((a:Nat):Int)*2^min (gR 4) IntKind.i64.bits=((16*a:Nat):Int):=by have:min (gR 4) IntKind.i64.bits=4:=ai;rw[this];omega
   dsimp only;refine wk ?_;rw[e4];refine wk ?_;rw[We a1 b1];refine H.us (Yn H.data (aD (16*a+b))) ?_;intro w H;cases hsp:kS (aD (16*a+b))with
   | false =>refine wk ?_;refine rN ?_;refine wk ?_;exact⟨by simp only[ha,hb,hsp];rfl,rfl,H.base⟩
   | true =>refine wk ?_;rw[e4];refine wk ?_;rw[We a1 b1];exact⟨_,t2,by simp only[ha,hb,hsp];rfl,rfl,V3,r3,o3,Nj,(hV1.trans hV2).trans aw,xR,trivial,H⟩
theorem Rel.B8{a b c:aT}(H:Rel w0 V0 (a::b::c::own) V w):Rel w0 V0 (b::c::a::own) V w:=H.perm ((List.Perm.swap b a _).trans (List.Perm.cons b (List.Perm.swap c a _)))
theorem Rel.PV{a b c:aT}(H:Rel w0 V0 (b::c::a::own) V w):Rel w0 V0 (a::b::c::own) V w:=H.perm ((List.Perm.cons b (List.Perm.swap a c _)).trans (List.Perm.swap a b _))
theorem akR(H:Rel w0 V0 (fE rb r o hs s++own) V w)(hR:mu N V r hs s)(hN:N<=5000)(hp:pk s=some 34):cR Tryz.prog 287 [.pointer (some ⟨rb,0,none⟩)].toArray w (λq w'=>∃b s' p,qM s=some (b,s')/\q=Sl.v p/\tW w0 V0 rb own N V s' (λU=>aF U p b) w') (mU w0 (qM s=none)):=by
 have oh:=hR.cnt;obtain⟨t0,ht0,htl⟩:=I1 hp;refine eV Tryz.func287 29 [0,2,3,4,11,15,20] ?_;refine wk ((JQ H hR hN).use ?_);clear H;rintro v w⟨rfl,V1,r1,o1,hs1,hV1,iM,_,H⟩;refine wk ?_;refine cR.mono (FP H iM aa) ?_ (λch w' h=>by have:=h.why;rw[show(ik s).rest=34::t0 from ht0]at this;cases this)
 clear H;rintro v w⟨c,t,x9,rfl,V2,r2,o2,dG,hV2,ga,_,H⟩;rw[show(ik s).rest=34::t0 from ht0]at x9;cases x9;obtain⟨s1,Ni⟩:∃s1,s1=ik s:=⟨_,rfl⟩
 rw[<-Ni]at ga H;obtain⟨full,eK⟩:∃full,full=kB ((34::t0).length+1) t0:=⟨_,rfl⟩
 have xT:=hV1.trans hV2;replace H:=(H.br 5 1).B8;refine wk ?_;refine aP (S:=Sl×ab) al [0] (λk=>[(3,k.1.v)]) (λk w'=>∃out V' r o hs n,Sub V V'/\mu (N+1) V' r hs { s1 with rest:=k.2 }/\full=(kB n k.2).map (λp=>(out++p.1,p.2))/\k.2.length<n/\out.length+k.2.length<=t0.length/\Rel w0 V0 (fE rb r o hs { s1 with rest:=k.2 }++(.row k.1 5 1 (out.flatMap aI)::own)) V' w') (λk _=>k.2.length) (⟨none,0,0⟩,t0) ?_;conv=>whnf
 refine⟨sB,⟨[],V2,r2,o2,dG,(34::t0).length+1,xT,ga,?_,?_,?_,H⟩,?_⟩
 ·show full=(kB ((34::t0).length+1) t0).map λp=>([]++p.1,p.2)
  rw[eK];cases kB ((34::t0).length+1) t0<;>rfl
 ·show t0.length<_;rw[aq];omega
 ·show 0+t0.length<=t0.length;omega
 clear H;rintro⟨q,x⟩w⟨out,V3,r3,o3,Nj,n,aw,xR,hf,UX,dF,H⟩;dsimp only at xR hf UX dF H;have e:qM s=full.map λp=>(p.1,{ s1 with rest:=p.2 }):=by unfold qM;rw[ht0,List.tail_cons,<-eK,Ni];cases full<;>rfl
 have N6:kB n x=none->qM s=none:=λh=>by rw[e,hf,h];rfl
 cases n with
 | zero=>omega
 | succ n =>
 refine wk ?_;refine cR.mono (FP H xR aa) ?_ (λch w' h=>h.mono λh=>N6 (by dsimp only at h;rw[h];rfl));clear H;rintro v w⟨c,t,x9,rfl,V4,r4,o4,UH,ar,AO,_,H⟩;dsimp only at x9 AO H;subst x9;rw[aq]at UX dF;have ux:=c.toNat_lt;by_cases dy:c=34
 ·subst dy;refine wk ?_;replace H:=H.PV;obtain⟨V5,aN,H,hq⟩:=H.aJ (λ_=>rfl) ai;refine⟨out,{ s1 with rest:=t },q,?_,rfl,V5,r4,o4,UH,(aw.trans ar).trans aN,?_,hq,H⟩
  ·rw[e,hf,kB,ag rfl];simp
  refine⟨AO.rest.up aN,AO.ia.up pK.up aN,?_,AO.ol⟩;show s1.cnt+t.length<=N;rw[Ni,show(ik s).cnt=s.cnt+1 from rfl];omega
 have L6:c.toNat≠34:=λe=>dy (bL.1 e);refine wk (H.us (Yn H.data c) ?_);intro w H;cases hsp:kS c with
 | true =>refine wk ?_;refine rN ?_;refine wk ?_;exact⟨N6 (by rw[kB,ae dy,ag hsp]),rfl,H.base⟩
 | false =>
  by_cases jB:c=92
  ·subst jB;refine wk ?_;refine cR.mono (acS H AO aa) ?_ (λch w' h=>h.mono λh=>N6 (by dsimp only at h;rw[kB,ae dy,ae (by rw[hsp];decide),ag rfl,h]));clear H;rintro v w⟨d,t',hd,rfl,V5,r5,o5,hs5,aN,TG,_,H⟩;dsimp only at hd TG H;have hlt:=(SM hd).2;refine H.wn ?_;intro w b27 H;refine wk ?_;refine Rel.ub (f:=aI) (s:=q) (l:=out) (x:=d) rfl (λ_=>rfl) (by simp[Value.oneCell']) H (by show(out.length+1)*1<=_;omega) aa ?_;intro q' w H;refine wk ?_;refine⟨sB,(q',t'),sB,⟨out++[d],V5,r5,o5,hs5,n,(aw.trans ar).trans aN,TG,?_,?_,?_,H⟩,?_⟩
   ·rw[hf,kB,ae dy,ae (by rw[hsp];decide),ag rfl,hd];dsimp only;rw[tC];congr 1;funext p;simp
   ·show t'.length<n;omega
   ·show(out++[d]).length+t'.length<=t0.length;rw[ak,bT];omega
   show t'.length<(92::t).length;rw[aq];omega
  have L8:c.toNat≠92:=λe=>jB (bL.1 e);refine H.wn ?_;intro w b27 H;refine wk ?_;refine Rel.ub (f:=aI) (s:=q) (l:=out) (x:=c) rfl (λ_=>rfl) (by simp[Value.oneCell']) H (by show(out.length+1)*1<=_;omega) aa ?_;intro q' w H;refine wk ?_;refine⟨sB,(q',t),sB,⟨out++[c],V4,r4,o4,UH,n,aw.trans ar,AO,?_,?_,?_,H⟩,?_⟩
  ·rw[hf,kB,ae dy,ae (by rw[hsp];decide),ae jB];rw[tC];congr 1;funext p;simp
  ·show t.length<n;omega
  ·show(out++[c]).length+t.length<=t0.length;rw[ak,bT];omega
  show t.length<(c::t).length;rw[aq];omega
theorem agv(H:Rel w0 V0 (fE rb r o hs s++own) V w)(hR:mu N V r hs s)(hN:N<=5000):cR Tryz.prog 291 [.pointer (some ⟨rb,0,none⟩)].toArray w (λq w'=>∃x s',pz s=some (x,s')/\q=str x/\tW w0 V0 rb own N V s' (λ_=>True) w') (mU w0 (pz s=none)):=by
 have oh:=hR.cnt;refine eV Tryz.func291 43 [0,2,3,4,30] ?_;refine wk ?_;refine cR.mono (IX H hR hN) ?_ (λch w' h=>h.mono λh=>by unfold pz;rw[ag h]);clear H;rintro v w⟨⟨c,hc,rfl⟩,H⟩;obtain⟨t0,ht0,htl⟩:=I1 hc;refine wk ((JQ H hR hN).use ?_);clear H;rintro v w⟨rfl,V1,r1,o1,hs1,hV1,iM,_,H⟩;have hr1:=iM.rest;rw[show(ik s).rest=s.rest.dropWhile bB from rfl]at hr1;obtain⟨l,hl⟩:∃l,l=s.rest.dropWhile bB:=⟨_,rfl⟩
 rw[<-hl]at hr1;have hl1:=hr1.len;have hc1:=hr1.cap;have hll:l.length<=5000:=by rw[hl,ht0,aq];omega
 obtain⟨x,hx⟩:∃x,x=l.takeWhile lN:=⟨_,rfl⟩
 have qj:l.length=x.length+(l.dropWhile lN).length:=by
  conv=>lhs;rw[<-pE (p:=lN) (l:=l)]
  rw[ak,hx]
 have jV:l.take x.length=x:=by
  conv=>lhs;rw[<-pE (p:=lN) (l:=l),<-hx]
  rw[tD]
 have eT:l.drop x.length=l.dropWhile lN:=by
  conv=>lhs;rw[<-pE (p:=lN) (l:=l),<-hx]
  rw[kN]
 have hcut:=hr1.tk (k:=x.length) aa;rw[jV]at hcut;simp only[fE,bb,aL]at H;refine wk ?_;refine dV 3 [9] [0,1,2,3,4,5,6,7,8,9,10,11,12] H ?_;intro w H;refine wk ?_;refine(P1 H.data hr1 aa (cs:=NV) ai ai ai).use ?_;rintro v w⟨⟨t,rfl,ht⟩,K⟩;replace H:=H.bd K;rw[agB]at ht;have htl:=ht.len;refine wk ?_;rw[show(r1.len:Int)-t.len=(x.length:Int)by omega];refine wk ?_;refine⟨x,aa,iu _▸(hcut.up H.data).cells,?_⟩;refine wk (H.us (VI H.data x) ?_);intro w H;have e:pz s=if cX x=true then some (x,{ ik s with rest:=l.dropWhile lN })else none:=by unfold pz;rw[ae (by rw[hc];simp),<-hl,<-hx]
 cases ke:cX x with
 | false =>rw[ke,ae ai]at e;refine wk ?_;refine rN ?_;refine wk ?_;exact⟨e,rfl,H.base⟩
 | true =>
  rw[ke,ag rfl]at e;have hd:=hr1.dr (k:=x.length) aa;rw[eT]at hd;have dO:1<=x.length:=by obtain⟨c,y,hy,_⟩:=yS ke;rw[hy,aq];omega
  have qh:l.length=t0.length+1:=by rw[hl,ht0,aq]
  refine H.wg ?_;intro w H;refine⟨x,_,e,rfl,V1,_,o1,hs1,hV1,⟨hd,iM.ia,?_,iM.ol⟩,trivial,H⟩;show s.cnt+1+(l.dropWhile lN).length<=N;omega
end
section
open Go Go.RowKit Go.Shelf
def Ft:Shelf.Ren:=⟨λx=>if x=129 then 368 else if x=171 then 251 else if x=172 then 318 else if x=205 then 377 else if x=243 then 298 else if x=244 then 344 else if x=245 then 345 else if x=246 then 321 else if x=247 then 362 else if x=279 then 363 else if x=280 then 364 else if x=281 then 365 else if x=282 then 366 else if x=283 then 346 else if x=284 then 347 else if x=285 then 348 else if x=286 then 349 else if x=287 then 375 else if x=316 then 376 else if x=317 then 367 else if x=318 then 369 else if x=319 then 370 else if x=320 then 371 else if x=321 then 380 else if x=322 then 381 else if x=337 then 378 else if x=338 then 379 else x,λx=>if x=0 then 0 else if x=2 then 2 else if x=3 then 3 else if x=4 then 4 else if x=5 then 5 else if x=9 then 9 else if x=20 then 20 else if x=21 then 21 else if x=37 then 22 else if x=46 then 132 else if x=51 then 321 else if x=53 then 218 else if x=75 then 369 else if x=76 then 370 else if x=80 then 344 else if x=85 then 401 else if x=127 then 420 else if x=143 then 421 else if x=145 then 423 else if x=167 then 400 else if x=168 then 403 else if x=171 then 383 else if x=173 then 386 else if x=175 then 412 else if x=210 then 416 else if x=212 then 407 else if x=213 then 408 else if x=232 then 424 else if x=233 then 425 else x,λx=>if x=15 then 4 else if x=16 then 5 else if x=17 then 3 else if x=18 then 6 else if x=19 then 7 else x⟩
theorem Io:LaysC.n172 Tryz.prog Ft where
 mixed:=av
 f129:=Tryz.func368.trans (ax some av)
 f171:=Tryz.func251.trans (ax some av)
 f172:=Tryz.func318.trans (ax some av)
 f205:=Tryz.func377.trans (ax some av)
 f243:=Tryz.func298.trans (ax some av)
 f244:=Tryz.func344.trans (ax some av)
 f245:=Tryz.func345.trans (ax some av)
 f246:=Tryz.func321.trans (ax some av)
 f247:=Tryz.func362.trans (ax some av)
 f279:=Tryz.func363.trans (ax some av)
 f280:=Tryz.func364.trans (ax some av)
 f281:=Tryz.func365.trans (ax some av)
 f282:=Tryz.func366.trans (ax some av)
 f283:=Tryz.func346.trans (ax some av)
 f284:=Tryz.func347.trans (ax some av)
 f285:=Tryz.func348.trans (ax some av)
 f286:=Tryz.func349.trans (ax some av)
 f287:=Tryz.func375.trans (ax some av)
 f316:=Tryz.func376.trans (ax some av)
 f317:=Tryz.func367.trans (ax some av)
 f318:=Tryz.func369.trans (ax some av)
 f319:=Tryz.func370.trans (ax some av)
 f320:=Tryz.func371.trans (ax some av)
 f321:=Tryz.func380.trans (ax some av)
 f322:=Tryz.func381.trans (ax some av)
 f337:=Tryz.func378.trans (ax some av)
 f338:=Tryz.func379.trans (ax some av)
 t0:=Tryz.underlying0
 a0:=Tryz.isAgg0
 z0:=Tryz.sizeOf0
 v0:=Tryz.zeroValue0
 t2:=Tryz.underlying2
 a2:=Tryz.isAgg2
 z2:=Tryz.sizeOf2
 v2:=Tryz.zeroValue2
 t3:=Tryz.underlying3
 a3:=Tryz.isAgg3
 z3:=Tryz.sizeOf3
 v3:=Tryz.zeroValue3
 t4:=Tryz.underlying4
 a4:=Tryz.isAgg4
 z4:=Tryz.sizeOf4
 v4:=Tryz.zeroValue4
 t5:=Tryz.underlying5
 a5:=Tryz.isAgg5
 z5:=Tryz.sizeOf5
 v5:=Tryz.zeroValue5
 t9:=Tryz.underlying9
 a9:=Tryz.isAgg9
 z9:=Tryz.sizeOf9
 v9:=Tryz.zeroValue9
 t20:=Tryz.underlying20
 a20:=Tryz.isAgg20
 z20:=Tryz.sizeOf20
 v20:=Tryz.zeroValue20
 t21:=Tryz.underlying21
 a21:=Tryz.isAgg21
 z21:=Tryz.sizeOf21
 v21:=Tryz.zeroValue21
 t37:=Tryz.underlying22
 a37:=Tryz.isAgg22
 z37:=Tryz.sizeOf22
 v37:=Tryz.zeroValue22
 t46:=Tryz.underlying132
 a46:=Tryz.isAgg132
 z46:=Tryz.sizeOf132
 v46:=Tryz.zeroValue132
 t51:=Tryz.underlying321
 a51:=Tryz.isAgg321
 z51:=Tryz.sizeOf321
 v51:=Tryz.zeroValue321
 t53:=Tryz.underlying218
 a53:=Tryz.isAgg218
 z53:=Tryz.sizeOf218
 v53:=Tryz.zeroValue218
 t75:=Tryz.underlying369
 a75:=Tryz.isAgg369
 z75:=Tryz.sizeOf369
 v75:=Tryz.zeroValue369
 t76:=Tryz.underlying370
 a76:=Tryz.isAgg370
 z76:=Tryz.sizeOf370
 v76:=Tryz.zeroValue370
 t85:=Tryz.underlying401
 a85:=Tryz.isAgg401
 z85:=Tryz.sizeOf401
 v85:=Tryz.zeroValue401
 t127:=Tryz.underlying420
 a127:=Tryz.isAgg420
 z127:=Tryz.sizeOf420
 v127:=Tryz.zeroValue420
 t143:=Tryz.underlying421
 a143:=Tryz.isAgg421
 z143:=Tryz.sizeOf421
 v143:=Tryz.zeroValue421
 t145:=Tryz.underlying423
 a145:=Tryz.isAgg423
 z145:=Tryz.sizeOf423
 v145:=Tryz.zeroValue423
 t167:=Tryz.underlying400
 a167:=Tryz.isAgg400
 z167:=Tryz.sizeOf400
 v167:=Tryz.zeroValue400
 t168:=Tryz.underlying403
 a168:=Tryz.isAgg403
 z168:=Tryz.sizeOf403
 v168:=Tryz.zeroValue403
 t171:=Tryz.underlying383
 a171:=Tryz.isAgg383
 z171:=Tryz.sizeOf383
 v171:=Tryz.zeroValue383
 t173:=Tryz.underlying386
 a173:=Tryz.isAgg386
 z173:=Tryz.sizeOf386
 v173:=Tryz.zeroValue386
 t175:=Tryz.underlying412
 a175:=Tryz.isAgg412
 z175:=Tryz.sizeOf412
 v175:=Tryz.zeroValue412
 t210:=Tryz.underlying416
 a210:=Tryz.isAgg416
 z210:=Tryz.sizeOf416
 v210:=Tryz.zeroValue416
 t212:=Tryz.underlying407
 a212:=Tryz.isAgg407
 z212:=Tryz.sizeOf407
 v212:=Tryz.zeroValue407
 t213:=Tryz.underlying408
 a213:=Tryz.isAgg408
 z213:=Tryz.sizeOf408
 t232:=Tryz.underlying424
 a232:=Tryz.isAgg424
 z232:=Tryz.sizeOf424
 v232:=Tryz.zeroValue424
 t233:=Tryz.underlying425
 a233:=Tryz.isAgg425
 z233:=Tryz.sizeOf425
 v233:=Tryz.zeroValue425
 g15:=av
 g16:=av
 g17:=av
 g18:=av
 g19:=av
 t80:=Tryz.underlying344
 a80:=Tryz.isAgg344
 z80:=Tryz.sizeOf344
 v80:=Tryz.zeroValue344
 i0:=av
 i2:=av
 i3:=av
 i4:=av
 i5:=av
 i9:=av
 i20:=av
 i21:=av
 i37:=av
 i46:=av
 i51:=av
 i53:=av
 i75:=av
 i76:=av
 i80:=av
 i85:=av
 i127:=av
 i143:=av
 i145:=av
 i167:=av
 i168:=av
 i171:=av
 i173:=av
 i175:=av
 i210:=av
 i212:=av
 i232:=av
 i233:=av
 m15:=av
 m16:=av
 m17:=av
 m18:=av
 m19:=av
 c0:=av
 c2:=av
 c3:=av
 c4:=av
 c5:=av
 c9:=av
 c20:=av
 c21:=av
 c37:=av
 c46:=av
 c51:=av
 c53:=av
 c75:=av
 c76:=av
 c80:=av
 c85:=av
 c127:=av
 c143:=av
 c145:=av
 c167:=av
 c168:=av
 c171:=av
 c173:=av
 c175:=av
 c210:=av
 c212:=av
 c213:=av
 c232:=av
 c233:=av
structure pQ(V:ad):Prop where
 pow:Lib.TabIs Tryz.prog V "internal/strconv.uint64pow10" .u64 Lib.pow10Tab
 es:∃t p,V.cell? ⟨4,0,none⟩=some (.iface t p)
 er:∃t p,V.cell? ⟨5,0,none⟩=some (.iface t p)
theorem YC{n:String}{k:IntKind}{zs:List Int}(h:Lib.TabIs P V n k zs)(hs:Sub V W):Lib.TabIs P W n k zs:=by
 unfold Lib.TabIs World.var? at *;cases hg:P.globalNamed n with
 | none=>rw[hg]at h;cases h
 | some g =>
  rw[hg]at h;simp only[Jp]at h |-;split at h
  ·rename_i cs t f hc;rw[hs.cS _ _ _ _ hc];exact h
  cases h
theorem pQ.up(h:pQ V)(k:Sub V W):pQ W:=⟨YC h.pow k,let⟨t,p,h⟩:=h.es;⟨t,p,k.cell h⟩,let⟨t,p,h⟩:=h.er;⟨t,p,k.cell h⟩⟩
theorem afh(hV:Sub V W)(hE:pQ V){n:Int}(hn:cY n):aB 251 [iv n] W λq w'=>q=str (Lib.itoa n)/\Rel W V [] V w':=by have h:=Any.strconv_Itoa (ρ:=Ft) { Io with } n hn.1 hn.2 W (YC hE.pow hV);exact fY.uT Tryz.func251 av av (Calls.nD h λe w' ⟨he,k,os,hw⟩=>⟨_,he,rfl,by rw[hw];exact(aG hV).ext (Lib.below_grow _ _ (aQ _) _ _)⟩)
inductive Kq(s:ab):aj->Prop where
 | ok {v:Int} (h:Lib.atoiAll s=.ok v):Kq s (.tuple #[iv v,.nilIface])
 | err {a:Int} {t:TypeId} {p:aj} (h:∀v,Lib.atoiAll s≠.ok v):Kq s (.tuple #[iv a,.iface t p])
theorem aaW(hV:Sub V W)(hE:pQ V){s:ab}(hs:s.length<=100000):aB 318 [str s] W λq w'=>Kq s q/\Rel W V [] V w':=by
 have hsz:(⟨s.toArray⟩:ByteArray).size=s.length:=rfl;have hl:(⟨s.toArray⟩:ByteArray).data.toList=s:=rfl;rcases ha:Lib.atoiAll s with v|_|_
 ·have h:=Any.strconv_Atoi_ok (ρ:=Ft) Io ⟨s.toArray⟩ aa v (by rw[hl];exact ha) W;refine fY.uT Tryz.func318 av av (Calls.nD h λe w' ⟨he,hw⟩=>⟨_,he,.ok ha,?_⟩);rcases hw with rfl|⟨t,rfl⟩
  ·exact aG hV
  exact(aG hV).ext (Lib.bytesWorld_below _ _ _)
 ·obtain⟨t,p,hp⟩:=hE.es;have h:=Any.strconv_Atoi_syntax (ρ:=Ft) Io ⟨s.toArray⟩ aa (by rw[hl];exact ha) _ W (hV.cell hp) (.inr ⟨t,p,rfl⟩);exact fY.uT Tryz.func318 av av (Calls.nD h λe w' ⟨N,he,_,_,hw⟩=>⟨_,he,.err (λv h=>by rw[ha]at h;cases h),(aG hV).ext hw⟩)
 obtain⟨t,p,hp⟩:=hE.er;have h:=Any.strconv_Atoi_range (ρ:=Ft) Io ⟨s.toArray⟩ aa (by rw[hl];exact ha) _ W (hV.cell hp) (.inr ⟨t,p,rfl⟩);exact fY.uT Tryz.func318 av av (Calls.nD h λe w' ⟨N,he,_,_,hw⟩=>⟨_,he,.err (λv h=>by rw[ha]at h;cases h),(aG hV).ext hw⟩)
section
variable{w0 V0 V w:ad}{own:cx}{rb N:Nat}{r o:Sl}{hs:List mV}{s:RS}
theorem VV{t0:ab}{i0 k:Nat}(hi:c=45/\i0=1\/c≠45/\i0=0)(h0:i0<=k)(hk:k<=(c::t0).length)(hd:∀x∈((c::t0).take k).drop i0,dQ x=true)(he:∀x y,(c::t0).drop k=x::y->dQ x=false):uS (c::t0)=(c::t0).take k:=by
 rw[N9];rcases hi with⟨rfl,rfl⟩|⟨hc,rfl⟩
 ·rw[ag rfl];obtain⟨k,rfl⟩:∃j,k=j+1:=⟨k-1,aa⟩
  rw[List.take_succ_cons]at hd |-;rw[List.drop_succ_cons]at he;congr 1;conv=>lhs;rw[<-eW k t0]
  exact(qJ (λx hx=>hd x (by simpa using hx)) he).1
 rw[ae hc];conv=>lhs;rw[<-eW k (c::t0)]
 exact(qJ (λx hx=>hd x (by simpa using hx)) he).1
theorem agU(hE:pQ V)(H:Rel w0 V0 (fE rb r o hs s++own) V w)(hR:mu N V r hs s)(hN:N<=5000){c:UInt8}(hc:pk s=some c):cR Tryz.prog 293 [.pointer (some ⟨rb,0,none⟩)].toArray w (λq w'=>∃v s',rQ s=some (v,s')/\q=iv v/\tW w0 V0 rb own N V s' (λ_=>True) w') (mU w0 (rQ s=none)):=by
 have oh:=hR.cnt;obtain⟨t0,ht0,htl⟩:=I1 hc;obtain⟨l,hl⟩:∃l,l=c::t0:=⟨_,rfl⟩
 have hll:l.length=t0.length+1:=by rw[hl];rfl
 have ux:=c.toNat_lt;obtain⟨i0,HX,om⟩:∃i0:Nat,i0<=1/\(c=45/\i0=1\/c≠45/\i0=0):=by
  by_cases h:c=45
  ·exact⟨1,aa,.inl ⟨h,rfl⟩⟩
  exact⟨0,aa,.inr ⟨h,rfl⟩⟩
 refine nX al Tryz.func293 rfl av 79 rfl ah [0,2,3,4,5,6,15,44,66] ?_;refine aM.cA al ?_;refine wk ?_;refine aM.cA al ?_;refine wk ((JQ H hR hN).use ?_);clear H;rintro v w⟨rfl,V1,r1,o1,hs1,hV1,iM,_,H⟩;have hr1:=iM.rest;rw[show(ik s).rest=s.rest.dropWhile bB from rfl,ht0,<-hl]at hr1;have hl1:=hr1.len;have hc1:=hr1.cap;obtain⟨p0,c0⟩:=hr1.aR (g:=bv) (λ_=>rfl) (show 0<l.length by omega);have qh:l[0]'(by omega)=c:=by simp[hl]
 rw[qh]at c0;simp only[fE,bb,aL]at H;refine wk ?_;refine aM.cA al ?_;refine wk ?_;refine aM.lq al (λ_:Unit=>[(0,.pointer (some ⟨rb,0,none⟩)),(3,iv (i0:Int))]) (λ_ w'=>Rel w0 V0 (.ay rb [r1.v,iv (((ik s).cnt:Nat):Int),str (ik s).last,o1.v] 303::.row o1 206 2 (hs1.flatMap oW)::own) V1 w') ?_ ?_
 ·rcases om with⟨h1,rfl⟩|⟨h1,rfl⟩
  ·have:c.toNat=45:=by rw[h1];rfl
   refine wk ?_;exact⟨(),sB,H⟩
  have:c.toNat≠45:=λe=>h1 (bL.1 e);refine wk ?_;exact⟨(),sB,H⟩
 clear H;rintro _ w H;refine aM.lq al (λk:Nat=>[(0,.pointer (some ⟨rb,0,none⟩)),(3,iv (k:Int))]) (λk w'=>(k<=l.length/\uS l=l.take k)/\Rel w0 V0 (.ay rb [r1.v,iv (((ik s).cnt:Nat):Int),str (ik s).last,o1.v] 303::.row o1 206 2 (hs1.flatMap oW)::own) V1 w') ?_ ?_
 ·refine wk ?_;refine aM.cut 0 (λk:Nat=>[(0,.pointer (some ⟨rb,0,none⟩)),(3,iv (k:Int))]) (λk w'=>(k<=l.length/\uS l=l.take k)/\Rel w0 V0 (.ay rb [r1.v,iv (((ik s).cnt:Nat):Int),str (ik s).last,o1.v] 303::.row o1 206 2 (hs1.flatMap oW)::own) V1 w') ?_ ?_
  ·refine aP (S:=Nat) al [0,2,4,5,6,15,66] (λk=>[(3,iv (k:Int))]) (λk w'=>(i0<=k/\k<=l.length/\∀x∈(l.take k).drop i0,dQ x=true)/\Rel w0 V0 (.ay rb [r1.v,iv (((ik s).cnt:Nat):Int),str (ik s).last,o1.v] 303::.row o1 206 2 (hs1.flatMap oW)::own) V1 w') (λk _=>l.length-k) i0 ?_;conv=>whnf
   refine⟨sB,⟨⟨aQ _,aa,λx hx=>by rw[sb (by simp;omega)]at hx;simp at hx⟩,H⟩,?_⟩;clear H;rintro k w⟨⟨h0,hk,hd⟩,H⟩;by_cases hlt:k<l.length;rotate_left
   ·refine wk ?_;refine⟨k,sB,⟨hk,?_⟩,H⟩;rw[hl];rw[hl]at hd hlt;exact VV om h0 (by rw[<-hl];exact hk) hd λx y h=>by rw[sb aa]at h;cases h
   obtain⟨p1,c1⟩:=hr1.aR (g:=bv) (λ_=>rfl) hlt;obtain⟨x,hx⟩:∃x,x=l[k]:=⟨_,rfl⟩
   rw[<-hx]at c1;have rJ:=x.toNat_lt;by_cases eO:48<=x.toNat/\x.toNat<=57
   ·refine wk ?_;refine⟨sB,k+1,sB,⟨⟨aa,aa,λy hy=>?_⟩,H⟩,aa⟩;rw[List.take_succ_eq_append_getElem hlt,<-hx,List.drop_append_of_le_length (by simp;omega)]at hy;rcases List.mem_append.1 hy with hy|hy
    ·exact hd y hy
    simp only[List.mem_singleton]at hy;rw[hy];simp[dQ,eO]
   have stop:uS l=l.take k:=by
    have hxl:∀z y,l.drop k=z::y->dQ z=false:=λz y h=>by rw[dk hlt]at h;cases h;rw[<-hx];simp only[dQ,Bool.and_eq_false_iff,decide_eq_false_iff_not];omega
    rw[hl]at hd hxl hk |-;exact VV om h0 hk hd hxl
   by_cases uD:48<=x.toNat
   ·refine wk ?_;exact⟨k,sB,⟨hk,stop⟩,H⟩
   refine wk ?_;exact⟨k,sB,⟨hk,stop⟩,H⟩
  clear H;rintro k w⟨hk,H⟩;refine wk ?_;exact⟨k,sB,hk,H⟩
 clear H;rintro k w⟨⟨hk,aev⟩,H⟩;have hcut:=hr1.tk (k:=k) hk;refine aM.cA al ?_;refine wk ?_;refine⟨l.take k,by rw[bg,Int.toNat_natCast];omega,iu _▸(hcut.up H.data).cells,?_⟩;refine wk ?_;have e:rQ s=match jN (l.take k)with
  | none=>none
  | some v=>some (v,{ ik s with rest:=l.drop k }):=by
  unfold rQ
  rw[ht0,<-hl,aev]
  cases jN (l.take k)with
  | none=>rfl
  | some v =>
   dsimp only
   rw[bg,tB hk]
 refine aM.cA al ?_;refine wk ?_;refine(aaW H.data (hE.up hV1) (s:=l.take k) (by rw[bg];omega)).use ?_;rintro v w⟨hat,K⟩;replace H:=H.bd K;cases hat with
 | @err a t p hno =>
  have hn:jN (l.take k)=none:=by
   unfold jN;split
   ·rename_i v hv;exact absurd hv (hno v)
   rfl
  rw[hn]at e;refine wk ?_;refine aM.cA al ?_;refine wk ?_;refine rN ?_;refine wk ?_;exact⟨e,rfl,H.base⟩
 | @ok z hz =>
  refine wk ?_;refine aM.cA al ?_;refine wk (H.us (afh H.data (hE.up hV1) (Lib.atoiAll_bounds hz)) ?_);intro w H;by_cases hit:Lib.itoa z=l.take k
  ·have hn:jN (l.take k)=some z:=by unfold jN;rw[hz];simp only;rw[ag hit]
   rw[hn]at e;have hd:=hr1.dr (k:=k) hk;have iN:1<=k:=by
    rcases Nat.eq_zero_or_pos k with h|h
    ·exfalso;rw[h,List.take_zero]at hit;obtain⟨c,r,hc,_⟩:=wc z;rw[hc]at hit;cases hit
    exact h
   refine wk ?_;refine C1 (by rw[bw hit];rfl) ?_;refine wk ?_;refine aM.cA al ?_;refine H.wg ?_;intro w H;refine aM.cA al ?_;refine wk ?_;refine aM.go al ?_;refine wk ?_;refine⟨z,_,e,rfl,V1,_,o1,hs1,hV1,⟨hd,iM.ia,?_,iM.ol⟩,trivial,H⟩;show s.cnt+1+(l.drop k).length<=N;rw[aU];omega
  have hn:jN (l.take k)=none:=by unfold jN;rw[hz];simp only;rw[ae hit]
  rw[hn]at e;refine wk ?_;refine pW (by rw[bA hit];rfl) ?_;refine wk ?_;refine rN ?_;refine wk ?_;exact⟨e,rfl,H.base⟩
end
end
theorem fq.lt{s:RS}{L:BL}{v:ao}(h:fq s L s')(hL:L.map Prod.snd=dp v)(hv:gY v):s'.rest.length<s.rest.length:=by have h1:=ax bU h.rest;have h2:=LH L;have h3:=Vg hv;rw[hL]at h2;rw[ak]at h1;omega
theorem JP{s:RS}(h:kP c s=some s'):s'.rest.length<s.rest.length:=by have h1:=ax bU (Cf h).rest;simp only[cC,bD,eL,ak,aq,aK]at h1;omega
theorem VK{s:RS}{x:ab}(h:pz s=some (x,s')):s'.rest.length<s.rest.length:=by obtain⟨h0,hx⟩:=NZ h;have h1:=ax bU h0.rest;obtain⟨c,r,hc,_⟩:=yS hx;simp only[cC,bD,eL,ak,aK,hc,aq]at h1;omega
theorem Sw(hf:xh f){k:Int}{x y:EL}(h:jk f k x=some y):y.2.1.length=x.2.1.length+1/\y.2.2.rest.length<x.2.2.rest.length/\y.1.length<=x.1.length+1:=by
 have key:∀ns ps s,nj f ns ps s=some y->y.2.1.length=ps.length+1/\y.2.2.rest.length<s.rest.length/\y.1=ns:=by
  intro ns ps s h;unfold nj at h;split at h
  ·cases h
  rename_i v s' hv;cases h;obtain⟨L,h1,h2,h3⟩:=hf _ _ _ hv;exact⟨ah,h1.lt h2 h3,rfl⟩
 unfold jk at h;split at h
 ·split at h
  ·cases h
  rename_i nm s1 h1;split at h
  ·cases h
  rename_i s2 h2;obtain⟨a,b,c⟩:=key _ _ _ h;have:=VK h1;have:=JP h2;refine⟨a,aa,by rw[c];simp⟩
 obtain⟨a,b,c⟩:=key _ _ _ h;exact⟨a,b,by rw[c];omega⟩
abbrev CH(vb:Nat)(k:Int)(ns ps:Sl)(nms:bf)(vh:List VH):cx:=[.ay vb [iv k,iv 0,.slice none 0 0,ns.v,ps.v] 27,.row ns 9 1 (nms.flatMap cO),.row ps 27 5 (vh.flatMap a8)]
structure oS(w0 V0:ad)(rb vb:Nat)(k:Int)(own:cx)(N:Nat)(V:ad)(x:EL)(w:ad):Prop where
 ex:∃(V':ad) (r o:Sl) (hs:List mV) (ns ps:Sl) (vh:List VH),Sub V V'/\mu N V' r hs x.2.2/\Pw cb V' vh x.2.1/\Rel w0 V0 (fE rb r o hs x.2.2++(CH vb k ns ps x.1 vh++own)) V' w
theorem mq(V V':ad)(x:VH)(y:ao)(hs:Sub V V')(h:cb V x y):cb V' x y:=h.up hs
section
variable{w0 V0 V w:ad}{own:cx}{rb vb N:Nat}{k:Int}{x:EL}
theorem oS.Wt(h:oS w0 V0 rb vb k own N V x w)(hN:N<=5000):cR Tryz.prog 286 [.pointer (some ⟨rb,0,none⟩)].toArray w (λq w'=>(∃c,pk x.2.2=some c/\q=bv c)/\oS w0 V0 rb vb k own N V x w') (mU w0 (pk x.2.2=none)):=by obtain⟨V',r,o,hs,ns,ps,vh,h1,h2,h3,H⟩:=h;exact cR.mono (IX H h2 hN) (λq w' ⟨h4,H⟩=>⟨h4,V',r,o,hs,ns,ps,vh,h1,h2,h3,H⟩) (λch w' h=>h)
theorem oS.sign(h:oS w0 V0 rb vb k own N V x w)(hN:N<=5000){c:UInt8}(hc:c.toNat<128):cR Tryz.prog 292 [.pointer (some ⟨rb,0,none⟩),bv c].toArray w (λq w'=>q=.tuple #[]/\∃s',kP c x.2.2=some s'/\oS w0 V0 rb vb k own N V (x.1,x.2.1,s') w') (mU w0 (kP c x.2.2=none)):=by obtain⟨V',r,o,hs,ns,ps,vh,h1,h2,h3,H⟩:=h;refine cR.mono (Yb H h2 hN hc) (λq w' ⟨hq,s',hs',V2,r2,o2,dG,hV2,ga,_,H⟩=>⟨hq,s',hs',V2,r2,o2,dG,ns,ps,vh,h1.trans hV2,ga,h3.up mq hV2,H⟩) (λch w' h=>h)
def Kt(w0 V0:ad)(rb vb:Nat)(k:Int)(own:cx)(N:Nat)(g:FuncId)(cap:aC)(f:lG)(n:Nat)(U:ad):Prop :=
 ∀(V w:ad) (x:EL),Sub U V->oS w0 V0 rb vb k own N V x w->x.2.2.rest.length<n->x.2.1.length+x.2.2.rest.length<=5000->x.1.length<=x.2.1.length ->
  cR Tryz.prog g cap.toArray w (λq w'=>q=.tuple #[]/\∃y,jk f k x=some y/\oS w0 V0 rb vb k own N V y w') (mU w0 (jk f k x=none))
theorem Vk{g:FuncId}{cap:aC}{U:ad}{s:RS}(hf:xh f)(hel:Kt w0 V0 rb vb k own N g cap f n U)(hU:Sub U V)(hS:oS w0 V0 rb vb k own N V ([],[],s) w)(hn:s.rest.length<n+1)(hl:s.rest.length<=5000)(hN:N<=5000)
  {op en:UInt8} (hop:op=if k=4 then 123 else 91) (hen:en=if k=4 then 125 else 93):cR Tryz.prog 288 [.pointer (some ⟨rb,0,none⟩),bv op,bv en,.func (.func g) #[] cap.toArray].toArray w (λq w'=>q=.tuple #[]/\∃y,ql f k s=some y/\oS w0 V0 rb vb k own N V y w') (mU w0 (ql f k s=none)):=by
 have ho8:op.toNat<128:=by rw[hop];split<;>decide
 have HK:en.toNat<128:=by rw[hen];split<;>decide
 have e:ql f k s=match kP op s with
  | none=>none
  | some s=>match pk s with
   | none=>none
   | some c=>if c=en then mC en ([],[],s)else match jk f k ([],[],s)with
    | none=>none
    | some y=>match py f k (y.2.2.rest.length+1) y with
     | none=>none
     | some z=>mC en z:=by unfold ql;rw[<-hop,<-hen];rfl
 rw[e];refine nX al Tryz.func288 rfl av 27 rfl ah [0,1,2,3,14,19] ?_;refine aM.cA al ?_;conv=>whnf
 refine cR.mono (hS.sign hN ho8) ?_ (λch w' h=>h.mono λh=>by dsimp only at h;rw[h]);clear hS;rintro v w⟨rfl,s1,hs1,hS⟩;dsimp only at hs1 hS;have hl1:=JP hs1;rw[hs1];dsimp only;obtain⟨full,eK⟩:∃full:Option EL,full=match pk s1 with
   | none=>none
   | some c=>if c=en then mC en ([],[],s1)else match jk f k ([],[],s1)with
    | none=>none
    | some y=>match py f k (y.2.2.rest.length+1) y with
     | none=>none
     | some z=>mC en z:=⟨_,rfl⟩
 rw[<-eK];conv=>whnf
 refine aM.lq al (λ_:EL=>[(0,.pointer (some ⟨rb,0,none⟩)),(2,bv en)]) (λz w'=>full=mC en z/\oS w0 V0 rb vb k own N V z w') ?_ ?_
 ·conv=>whnf
  refine cR.mono (hS.Wt hN) ?_ (λch w' h=>h.mono λh=>by dsimp only at h;rw[eK,h]);clear hS;rintro v w⟨⟨c,hc,rfl⟩,hS⟩;dsimp only at hc;rw[hc]at eK;conv=>whnf
  refine gj (λhne=>?_) (λheq=>?_);rotate_left
  ·obtain rfl:c=en:=bL.1 aa;conv=>whnf
   exact⟨rfl,([],[],s1),sB,by rw[eK];exact ag rfl,hS⟩
  have aer:¬c=en:=λe=>hne (by rw[e]);replace eK:full=match jk f k ([],[],s1)with
   | none=>none
   | some y=>match py f k (y.2.2.rest.length+1) y with
    | none=>none
    | some z=>mC en z:=by rw[eK];exact ae aer
  conv=>whnf
  refine cR.mono (hel V w ([],[],s1) hU hS (by dsimp only;omega) (by dsimp only[aK];omega) (aQ _)) ?_ (λch w' h=>h.mono λh=>by rw[eK,h]);clear hS;rintro v w⟨rfl,y,hy,hS⟩;obtain⟨g1,g2,g3⟩:=Sw hf hy;dsimp only[aK]at g1 g2 g3;rw[hy]at eK;dsimp only at eK;conv=>whnf
  refine aM.cut 0 (λ_:EL=>[(0,.pointer (some ⟨rb,0,none⟩)),(2,bv en)]) (λz w'=>full=mC en z/\oS w0 V0 rb vb k own N V z w') ?_ ?_
  ·refine aP (S:=EL) al [0,1,2,3,14] (λ_=>[]) (λz w'=>(∃m,z.2.2.rest.length<m/\full=match py f k m z with
     | none=>none
     | some z=>mC en z)/\(z.2.2.rest.length<n/\z.2.1.length+z.2.2.rest.length<=5000/\z.1.length<=z.2.1.length)/\oS w0 V0 rb vb k own N V z w') (λz _=>z.2.2.rest.length) y ?_
   conv=>whnf
   refine⟨sB,⟨⟨_,sj _,eK⟩,⟨aa,aa,aa⟩,hS⟩,?_⟩;clear hS eK;rintro z w⟨⟨m,hm,eK⟩,⟨l1,l2,l3⟩,hS⟩;cases m with
   | zero=>omega
   | succ m =>
   rw[py]at eK;conv=>whnf
   refine cR.mono (hS.Wt hN) ?_ (λch w' h=>h.mono λh=>by rw[eK,h]);clear hS;rintro v w⟨⟨c,hc,rfl⟩,hS⟩;rw[hc]at eK;dsimp only at eK;by_cases ob:c=44
   ·subst ob;rw[ag rfl]at eK;conv=>whnf
    refine cR.mono (hS.sign hN (c:=44) ai) ?_ (λch w' h=>h.mono λh=>by rw[eK,h]);clear hS;rintro v w⟨rfl,s2,dG,hS⟩;have q1:=JP dG;rw[dG]at eK;dsimp only at eK;conv=>whnf
    refine cR.mono (hel V w (z.1,z.2.1,s2) hU hS (by dsimp only;omega) (by dsimp only;omega) l3) ?_ (λch w' h=>h.mono λh=>by rw[eK,h]);clear hS;rintro v w⟨rfl,y2,Ig,hS⟩;obtain⟨q2,q3,q4⟩:=Sw hf Ig;dsimp only at q2 q3 q4;rw[Ig]at eK;dsimp only at eK;conv=>whnf
    exact⟨rfl,sB,y2,sB,⟨⟨m,aa,eK⟩,⟨aa,aa,aa⟩,hS⟩,aa⟩
   rw[ae ob]at eK;have amJ:c.toNat≠44:=λe=>ob (bL.1 e);conv=>whnf
   refine gj (λh=>absurd h aa) (λ_=>?_);conv=>whnf
   exact⟨rfl,z,sB,eK,hS⟩
  clear hS;rintro z w⟨hz,hS⟩;conv=>whnf
  exact⟨rfl,z,sB,hz,hS⟩
 clear hS;rintro z w⟨hz,hS⟩;refine aM.go al ?_;conv=>whnf
 unfold mC at hz;refine cR.mono (hS.sign hN HK) ?_ (λch w' h=>h.mono λh=>by rw[hz,h]);clear hS;rintro v w⟨rfl,s2,dG,hS⟩;rw[dG]at hz;conv=>whnf
 exact⟨rfl,_,hz,hS⟩
end
structure gX(a:Addr)(u:aj)(b:Addr)(v:aj)(w w':ad):Prop where
 fst:w.cell? a=some u->w'.cell? a=some u
 snd:w.cell? b=some v->w'.cell? b=some v
theorem gX.trans{a:Addr}{x y z:ad}(h:gX a u b v x y)(k:gX a u b v y z):gX a u b v x z:=⟨λq=>k.fst (h.fst q),λq=>k.snd (h.snd q)⟩
theorem gX.go{w':ad}{o:Nat}(H:Rel w0 V0 own V w')(hb:V.cell? b=some v)(hp:p)(hm:∃(i:Nat) (c:aC) (t:TypeId),own[i]?=some (.ay n c t)/\c[o]?=some u:=by first|exact⟨2,_,_,rfl,rfl⟩|exact⟨3,_,_,rfl,rfl⟩|exact⟨4,_,_,rfl,rfl⟩):gX ⟨n,o,none⟩ u b v w w'/\p :=
 let⟨_,_,_,hi,hc⟩:=hm;⟨⟨λ_=>H.KM hi hc,λ_=>H.Aw hb⟩,hp⟩
theorem gX.ld{w1:ad}{o:Nat}(H:Rel w0 V0 own V w)(hb:V.cell? b=some v)(hk:gX ⟨n,o,none⟩ u b v w w1)(hm:∃(i:Nat) (c:aC) (t:TypeId),own[i]?=some (.ay n c t)/\c[o]?=some u:=by first|exact⟨2,_,_,rfl,rfl⟩|exact⟨3,_,_,rfl,rfl⟩|exact⟨4,_,_,rfl,rfl⟩):w1.cell? ⟨n,o,none⟩=some u/\w1.cell? b=some v :=
 let⟨_,_,_,hi,hc⟩:=hm;⟨hk.fst (H.KM hi hc),hk.snd (H.Aw hb)⟩
theorem pv{A B:Prop}(h:B)(e:A:=by(intro w1 hkp;(obtain⟨iN,tf⟩:=gX.ld H (by assumption) hkp;(repeat ((conv=>whnf);first|refine an ?_|refine ea ?_|refine ol ?_));(conv=>whnf);all_goals (first|exact⟨rfl,rfl⟩|exact rfl)))):A/\B:=⟨e,h⟩
def Kz(n:Nat):Prop:=∀(w0 V0 V w:ad) (own:cx) (rb N:Nat) (r o:Sl) (hs:List mV) (s:RS),pQ V->Rel w0 V0 (fE rb r o hs s++own) V w->mu N V r hs s->N<=5000->s.rest.length<n ->
 cR Tryz.prog 244 [.pointer (some ⟨rb,0,none⟩)].toArray w (λq w'=>∃v s' h,gr n s=some (v,s')/\q=gw h/\tW w0 V0 rb own N V s' (λU=>cb U h v) w') (mU w0 (gr n s=none))
theorem O9:∀ {c:aC} {o:Nat} {l:aC} {k:aC->Prop},o+l.length<=c.length->k (c.take o++(l++c.drop (o+l.length)))->gS c o l k
 | [],0,[],k,_,h=>h
 | [],0,_::_,k,hl,_=>by simp at hl
 | [],o+1,l,k,hl,_=>by simp at hl
 | u::c,0,[],k,_,h=>by simpa [gS]using h
 | u::c,0,v::l,k,hl,h=>by rw[gS];simp only[aq,dR]at hl h;refine O9 (c:=c) (o:=0) (l:=l) aa ?_;simpa [Nat.add_comm]using h
 | u::c,o+1,l,k,hl,h=>by rw[gS];simp only[aq]at hl;refine O9 (c:=c) (o:=o) (l:=l) aa ?_;simpa [show o+1+l.length=o+l.length+1 by omega]using h
theorem Rel.wU(H:Rel w0 V0 own V w){i sz:Nat}{s:Sl}{e:TypeId}{xs:aC}(hi:own[i]?=some (.row s e sz xs))(j:Nat){l:aC}(hj:j+l.length<=s.len*sz){b o:Nat}(hb:b=bW s.a)(ho:o=bM s.a+j)(h0:l≠[]){k:ad->Prop}
  (hk:∀w',Rel w0 V0 (own.set i (.row s e sz (xs.take j++(l++xs.drop (j+l.length))))) V w'->k w'):∃c t',oR w b c t'/\gS c o l λc'=>∀w',mZ w b c' t' w'->k w':=by
 have hr:=H.rowAt hi;have hl1:1<=l.length:=by
  cases l with
  | nil=>exact absurd rfl h0
  | cons x y=>simp
 rcases hr.at_ with⟨_,h2,_⟩|⟨b0,cur,h1,h2,h3,h4,h5,h6⟩
 ·rw[h2,zi]at hj;omega
 rw[h1]at hb ho;simp only[bW,bM,dR]at hb ho;subst hb ho;have hbl:oR w b cur.toList e:=h2;have hle:=kr sz h3;have hcl:cur.toList.length=s.cap*sz:=by rw[Array.length_toList,h5]
 refine⟨cur.toList,e,hbl,O9 aa λw' hu=>hk w' ?_⟩;have hu':=hu;have hxl:=hr.len;have hnl:(cur.toList.take o++(l++cur.toList.drop (o+l.length))).length=cur.size:=by simp only[ak,bg,aU,hcl,h5];omega
 obtain⟨fz,cs,v7,rfl⟩:=hu.wd;refine H.put hi rfl rfl rfl ah (λk _ hk=>hu'.other λe=>hk (by rw[e];simp[aT.at_,h1])) ⟨?_,.inr ⟨b,(cur.toList.take o++(l++cur.toList.drop (o+l.length))).toArray,h1,hu'.row hbl (by simpa using hnl),h3,h4,by simpa [h5]using hnl,?_⟩⟩ λk hk=>.inl hk
 ·simp only[ak,bg,aU,hxl];omega
 rw[<-h6];show(cur.toList.take o++(l++cur.toList.drop (o+l.length))).take (s.len*sz)=_;rw[OR,OR,bg,bJ (l:=cur.toList.take o) (by rw[bg];omega),bJ (l:=l) aa,List.take_take,tB aa,List.drop_take];rw[tB aa,show s.len*sz-o-l.length=s.len*sz-(o+l.length)by omega]
theorem xb(vh:List VH)(h:VH):((vh++[aV]).flatMap a8).take (vh.length*5)++(a8 h++((vh++[aV]).flatMap a8).drop (vh.length*5+(a8 h).length))=(vh++[h]).flatMap a8:=by have hl:(vh.flatMap a8).length=vh.length*5:=kW (n:=5) (λ_=>rfl) vh;rw[cw,cw,<-hl,tD,<-List.drop_drop,kN];simp
section
variable{w0 V0 V w:ad}{own:cx}{rb vb b1 N n:Nat}{U:ad}
theorem aco(ih:Kz n)(hE:pQ U)(hN:N<=5000)(AU:U.cell? ⟨b1,0,none⟩=some (.pointer (some ⟨rb,0,none⟩))):Kt w0 V0 rb vb 3 own N 289 [.pointer (some ⟨vb,0,none⟩),.pointer (some ⟨b1,0,none⟩)] (gr n) n U:=by
 intro V w x hU hS hlt hl1 hl2;obtain⟨V1,r,o,hs,ns,ps,vh,hV1,hR,hP,H⟩:=hS;have Hz:=(hU.trans hV1).cell AU;have vZ:=hP.len;simp only[fE,CH,bb,aL]at H;have hpl:=H.dW (i:=4) rfl (λ_=>rfl) ai;refine eV Tryz.func289 11 [0,1] ?_;refine G5 (id:=0) al mixed (gX ⟨vb,4,none⟩ ps.v ⟨b1,0,none⟩ (.pointer (some ⟨rb,0,none⟩))) (λ_ _ _=>gX.trans) [3,5] [1,2] [0,1,2,4,3,5,6,7,9,8,10] [(3,[]),(5,[]),(6,[3,5]),(8,[3,5,6]),(10,[3,5,6])] av ?_;intro w bG;replace H:=Rel.ext H bG.ext;have bad:gr n x.2.2=none->jk (gr n) 3 x=none:=λh=>by unfold jk nj;rw[ae ai,h]
 have good:∀v s,gr n x.2.2=some (v,s)->jk (gr n) 3 x=some (x.1,x.2.1++[v],s):=λv s h=>by unfold jk nj;rw[ae ai,h]
 repeat' (refine wk ?_;(first|refine gX.go H (by assumption) ?_|refine pv ?_|refine And.intro ?_ ?_|(refine H.nA ?_;intro w _ H)))
 ·conv=>whnf
  refine cR.mono (ih _ _ _ _ _ _ _ _ _ _ _ (hE.up (hU.trans hV1)) H hR hN hlt) ?_ (λch w' h=>h.mono bad);clear H;rintro v w⟨v1,s',h1,hrd,rfl,V2,r2,o2,dG,hV2,ga,jH,H⟩;have Mt:=hV2.cell Hz;simp only[fE,bb,aL]at H;repeat' (refine wk ?_;(first|refine gX.go H (by assumption) ?_|refine pv ?_|refine And.intro ?_ ?_|(refine H.nA ?_;intro w _ H)))
  conv=>whnf
  have hps:=H.dW (i:=5) rfl (λ_=>rfl) ai;refine Rel.ua (f:=a8) (s:=ps) (l:=vh) (x:=aV) rfl (λ_=>rfl) (by simp[Value.oneCell']) H (i:=4) rfl (by show(vh.length+1)*88<=_;omega) aa ?_;intro rV w H;simp only[fa,bH]at H;have nu:=H.dW (i:=4) rfl (λ_=>rfl) ai;rw[ak,bT]at nu;obtain⟨lL,iz⟩:=(H.cV (i:=4) rfl (λ_=>rfl) ai).get (n:=5) (λ_=>rfl) ai (i:=vh.length) ah;repeat' ((first|(refine H.zQ ?_;intros;rename_i w H;constructor)|refine wk ?_);(first|refine gX.go H (by assumption) ?_|refine pv ?_|refine And.intro ?_ ?_|(refine H.nA ?_;intro w _ H)))
  ·conv=>whnf
   refine Rel.wU (i:=4) H rfl (vh.length*5) (by rw[nu];show vh.length*5+5<=(vh.length+1)*5;omega) rfl (by rw[hps];simp[placeOf]) ah ?_;intro w H;simp only[fa,bH]at H;rw[xb]at H;refine H.wh ?_;intro w H;exact⟨(x.1,x.2.1++[v1],s'),(good _ _ hrd),V2,r2,o2,dG,ns,rV,vh++[h1],(hV1.trans hV2),ga,((hP.up mq hV2).snoc jH),H⟩
  refine H.wh ?_;intro w H;refine Rel.wU (i:=4) H rfl (vh.length*5) (by rw[nu];show vh.length*5+5<=(vh.length+1)*5;omega) rfl (by rw[hps];simp[placeOf]) ah ?_;intro w H;simp only[fa,bH]at H;rw[xb]at H;refine wk ?_;exact⟨(x.1,x.2.1++[v1],s'),(good _ _ hrd),V2,r2,o2,dG,ns,rV,vh++[h1],(hV1.trans hV2),ga,((hP.up mq hV2).snoc jH),H⟩
 conv=>whnf
 replace H:=H.B8;refine cR.mono (ih _ _ _ _ _ _ _ _ _ _ _ (hE.up (hU.trans hV1)) H hR hN hlt) ?_ (λch w' h=>h.mono bad);clear H;rintro v w⟨v1,s',h1,hrd,rfl,V2,r2,o2,dG,hV2,ga,jH,H⟩;have Mt:=hV2.cell Hz;simp only[fE,bb,aL]at H;repeat' (refine wk ?_;(first|refine gX.go H (by assumption) ?_|refine pv ?_|refine And.intro ?_ ?_|(refine H.nA ?_;intro w _ H)))
 conv=>whnf
 replace H:=H.PV;have hps:=H.dW (i:=5) rfl (λ_=>rfl) ai;refine Rel.ua (f:=a8) (s:=ps) (l:=vh) (x:=aV) rfl (λ_=>rfl) (by simp[Value.oneCell']) H (i:=4) rfl (by show(vh.length+1)*88<=_;omega) aa ?_;intro rV w H;simp only[fa,bH]at H;have nu:=H.dW (i:=4) rfl (λ_=>rfl) ai;rw[ak,bT]at nu;obtain⟨lL,iz⟩:=(H.cV (i:=4) rfl (λ_=>rfl) ai).get (n:=5) (λ_=>rfl) ai (i:=vh.length) ah;repeat' ((first|(refine H.zQ ?_;intros;rename_i w H;constructor)|refine wk ?_);(first|refine gX.go H (by assumption) ?_|refine pv ?_|refine And.intro ?_ ?_|(refine H.nA ?_;intro w _ H)))
 ·conv=>whnf
  refine Rel.wU (i:=4) H rfl (vh.length*5) (by rw[nu];show vh.length*5+5<=(vh.length+1)*5;omega) rfl (by rw[hps];simp[placeOf]) ah ?_;intro w H;simp only[fa,bH]at H;rw[xb]at H;refine H.wh ?_;intro w H;exact⟨(x.1,x.2.1++[v1],s'),(good _ _ hrd),V2,r2,o2,dG,ns,rV,vh++[h1],(hV1.trans hV2),ga,((hP.up mq hV2).snoc jH),H⟩
 refine H.wh ?_;intro w H;refine Rel.wU (i:=4) H rfl (vh.length*5) (by rw[nu];show vh.length*5+5<=(vh.length+1)*5;omega) rfl (by rw[hps];simp[placeOf]) ah ?_;intro w H;simp only[fa,bH]at H;rw[xb]at H;refine wk ?_;exact⟨(x.1,x.2.1++[v1],s'),(good _ _ hrd),V2,r2,o2,dG,ns,rV,vh++[h1],(hV1.trans hV2),ga,((hP.up mq hV2).snoc jH),H⟩
theorem acp(ih:Kz n)(hE:pQ U)(hN:N<=5000)(AU:U.cell? ⟨b1,0,none⟩=some (.pointer (some ⟨rb,0,none⟩))):Kt w0 V0 rb vb 4 own N 290 [.pointer (some ⟨vb,0,none⟩),.pointer (some ⟨b1,0,none⟩)] (gr n) n U:=by
 intro V w x hU hS hlt hl1 hl2;obtain⟨V1,r,o,hs,ns,ps,vh,hV1,hR,hP,H⟩:=hS;have Hz:=(hU.trans hV1).cell AU;have vZ:=hP.len;have e:jk (gr n) 4 x=match pz x.2.2 with
   | none=>none
   | some (nm,s)=>match kP 58 s with
    | none=>none
    | some s=>nj (gr n) (x.1++[nm]) x.2.1 s:=by unfold jk;rw[ag rfl];rfl
 simp only[fE,CH,bb,aL]at H;refine eV Tryz.func290 20 [0,1] ?_;refine G5 (id:=0) al mixed (gX ⟨vb,3,none⟩ ns.v ⟨b1,0,none⟩ (.pointer (some ⟨rb,0,none⟩))) (λ_ _ _=>gX.trans) [3,4] [1] [0,1,2,3,4,5,6,7] [(3,[]),(4,[3]),(5,[3,4]),(7,[3,4,5])] av ?_;intro w bG;replace H:=Rel.ext H bG.ext;repeat' (refine wk ?_;(first|refine gX.go H (by assumption) ?_|refine pv ?_|refine And.intro ?_ ?_|(refine H.nA ?_;intro w _ H)))
 refine wk ?_;refine cR.mono (agv H hR hN) ?_ (λch w' h=>h.mono λh=>by rw[e,h]);clear H;rintro v w⟨nm,s1,hnm,rfl,V2,r2,o2,dG,hV2,ga,_,H⟩;rw[hnm]at e;dsimp only at e;have q1:=VK hnm;have Mt:=hV2.cell Hz;simp only[fE,bb,aL]at H;repeat' (refine wk ?_;(first|refine gX.go H (by assumption) ?_|refine pv ?_|refine And.intro ?_ ?_|(refine H.nA ?_;intro w _ H)))
 conv=>whnf
 refine Rel.ua (f:=cO) (s:=ns) (l:=x.1) (x:=nm) rfl (λ_=>rfl) (by simp[Value.oneCell']) H (i:=3) rfl (by show(x.1.length+1)*16<=_;omega) aa ?_;intro ns' w H;simp only[fa,bH]at H;repeat' ((refine H.wh ?_;intro w H);(first|refine gX.go H (by assumption) ?_|refine pv ?_|refine And.intro ?_ ?_|(refine H.nA ?_;intro w _ H)))
 refine H.wh ?_;intro w H;refine cR.mono (Yb (c:=58) H ga hN ai) ?_ (λch w' h=>h.mono λh=>by rw[e,h]);clear H;rintro v w⟨rfl,s2,dG,V3,r3,o3,Nj,aw,xR,_,H⟩;rw[dG]at e;dsimp only at e;have q2:=JP dG;have TS:=aw.cell Mt;have AP:=(hV1.trans hV2).trans aw;simp only[fE,bb,aL]at H;have bad:gr n s2=none->jk (gr n) 4 x=none:=λh=>by rw[e];unfold nj;rw[h]
 have good:∀v s,gr n s2=some (v,s)->jk (gr n) 4 x=some (x.1++[nm],x.2.1++[v],s):=λv s h=>by rw[e];unfold nj;rw[h]
 have hP3:=(hP.up mq hV2).up mq aw;refine wk ?_;refine G5 (id:=2) al mixed (gX ⟨vb,4,none⟩ ps.v ⟨b1,0,none⟩ (.pointer (some ⟨rb,0,none⟩))) (λ_ _ _=>gX.trans) [3,5] [1,2] [0,1,2,4,3,5,6,7,9,8,10] [(3,[]),(5,[]),(6,[3,5]),(8,[3,5,6]),(10,[3,5,6])] av ?_;intro w bG;replace H:=Rel.ext H bG.ext;repeat' (refine wk ?_;(first|refine gX.go H (by assumption) ?_|refine pv ?_|refine And.intro ?_ ?_|(refine H.nA ?_;intro w _ H)))
 ·conv=>whnf
  refine cR.mono (ih _ _ _ _ _ _ _ _ _ _ _ (hE.up (hU.trans AP)) H xR hN aa) ?_ (λch w' h=>h.mono bad);clear H;rintro v w⟨v1,s',h1,hrd,rfl,V2,r2,o2,dG,hV2,ga,jH,H⟩;have adU:=hV2.cell TS;simp only[fE,bb,aL]at H;repeat' (refine wk ?_;(first|refine gX.go H (by assumption) ?_|refine pv ?_|refine And.intro ?_ ?_|(refine H.nA ?_;intro w _ H)))
  conv=>whnf
  have hps:=H.dW (i:=5) rfl (λ_=>rfl) ai;refine Rel.ua (f:=a8) (s:=ps) (l:=vh) (x:=aV) rfl (λ_=>rfl) (by simp[Value.oneCell']) H (i:=4) rfl (by show(vh.length+1)*88<=_;omega) aa ?_;intro rV w H;simp only[fa,bH]at H;have nu:=H.dW (i:=4) rfl (λ_=>rfl) ai;rw[ak,bT]at nu;obtain⟨lL,iz⟩:=(H.cV (i:=4) rfl (λ_=>rfl) ai).get (n:=5) (λ_=>rfl) ai (i:=vh.length) ah;repeat' ((first|(refine H.zQ ?_;intros;rename_i w H;constructor)|refine wk ?_);(first|refine gX.go H (by assumption) ?_|refine pv ?_|refine And.intro ?_ ?_|(refine H.nA ?_;intro w _ H)))
  ·conv=>whnf
   refine Rel.wU (i:=4) H rfl (vh.length*5) (by rw[nu];show vh.length*5+5<=(vh.length+1)*5;omega) rfl (by rw[hps];simp[placeOf]) ah ?_;intro w H;simp only[fa,bH]at H;rw[xb]at H;refine H.wh ?_;intro w H;exact⟨(x.1++[nm],x.2.1++[v1],s'),(good _ _ hrd),V2,r2,o2,dG,ns',rV,vh++[h1],(AP.trans hV2),ga,((hP3.up mq hV2).snoc jH),H⟩
  refine H.wh ?_;intro w H;refine Rel.wU (i:=4) H rfl (vh.length*5) (by rw[nu];show vh.length*5+5<=(vh.length+1)*5;omega) rfl (by rw[hps];simp[placeOf]) ah ?_;intro w H;simp only[fa,bH]at H;rw[xb]at H;refine wk ?_;exact⟨(x.1++[nm],x.2.1++[v1],s'),(good _ _ hrd),V2,r2,o2,dG,ns',rV,vh++[h1],(AP.trans hV2),ga,((hP3.up mq hV2).snoc jH),H⟩
 conv=>whnf
 replace H:=H.B8;refine cR.mono (ih _ _ _ _ _ _ _ _ _ _ _ (hE.up (hU.trans AP)) H xR hN aa) ?_ (λch w' h=>h.mono bad);clear H;rintro v w⟨v1,s',h1,hrd,rfl,V2,r2,o2,dG,hV2,ga,jH,H⟩;have adU:=hV2.cell TS;simp only[fE,bb,aL]at H;repeat' (refine wk ?_;(first|refine gX.go H (by assumption) ?_|refine pv ?_|refine And.intro ?_ ?_|(refine H.nA ?_;intro w _ H)))
 conv=>whnf
 replace H:=H.PV;have hps:=H.dW (i:=5) rfl (λ_=>rfl) ai;refine Rel.ua (f:=a8) (s:=ps) (l:=vh) (x:=aV) rfl (λ_=>rfl) (by simp[Value.oneCell']) H (i:=4) rfl (by show(vh.length+1)*88<=_;omega) aa ?_;intro rV w H;simp only[fa,bH]at H;have nu:=H.dW (i:=4) rfl (λ_=>rfl) ai;rw[ak,bT]at nu;obtain⟨lL,iz⟩:=(H.cV (i:=4) rfl (λ_=>rfl) ai).get (n:=5) (λ_=>rfl) ai (i:=vh.length) ah;repeat' ((first|(refine H.zQ ?_;intros;rename_i w H;constructor)|refine wk ?_);(first|refine gX.go H (by assumption) ?_|refine pv ?_|refine And.intro ?_ ?_|(refine H.nA ?_;intro w _ H)))
 ·conv=>whnf
  refine Rel.wU (i:=4) H rfl (vh.length*5) (by rw[nu];show vh.length*5+5<=(vh.length+1)*5;omega) rfl (by rw[hps];simp[placeOf]) ah ?_;intro w H;simp only[fa,bH]at H;rw[xb]at H;refine H.wh ?_;intro w H;exact⟨(x.1++[nm],x.2.1++[v1],s'),(good _ _ hrd),V2,r2,o2,dG,ns',rV,vh++[h1],(AP.trans hV2),ga,((hP3.up mq hV2).snoc jH),H⟩
 refine H.wh ?_;intro w H;refine Rel.wU (i:=4) H rfl (vh.length*5) (by rw[nu];show vh.length*5+5<=(vh.length+1)*5;omega) rfl (by rw[hps];simp[placeOf]) ah ?_;intro w H;simp only[fa,bH]at H;rw[xb]at H;refine wk ?_;exact⟨(x.1++[nm],x.2.1++[v1],s'),(good _ _ hrd),V2,r2,o2,dG,ns',rV,vh++[h1],(AP.trans hV2),ga,((hP3.up mq hV2).snoc jH),H⟩
end
theorem Zy:∀n,Kz n
 | 0=>λw0 V0 V w own rb N r o hs s hE H hR hN hlt=>absurd hlt (Nat.not_lt_zero _)
 | n+1=>λw0 V0 V w own rb N r o hs s hE H hR hN hlt=>by
  have ih:=Zy n;have oh:=hR.cnt;simp only[fE,bb,aL]at H;refine eV Tryz.func244 33 [0,1,2,3,4,5,8,14,22] ?_;refine H.wn ?_;intro w b1 H;obtain⟨V1,hV1,H,hb1⟩:=H.cU;have AU:V1.cell? ⟨b1,0,none⟩=some (.pointer (some ⟨rb,0,none⟩)):=hb1.cS rfl;have iM:=hR.up hV1;refine H.wn ?_;intro w b2 H;replace H:=H.B8;refine wk ?_;refine cR.mono (IX H iM hN) ?_ (λch w' h=>h.mono λh=>by rw[gr,h]);clear H;rintro v w⟨⟨c,hc,rfl⟩,H⟩;have ux:=c.toNat_lt
  have e:gr (n+1) s=if c=34 then(qM s).map λx=>(.mk 2 0 x.1 [] [],x.2)
   else if c=91 then(ql (gr n) 3 s).map λx=>(.mk 3 0 [] x.1 x.2.1,x.2.2)
   else if c=123 then(ql (gr n) 4 s).map λx=>(.mk 4 0 [] x.1 x.2.1,x.2.2)
   else(rQ s).map λx=>(.mk 1 x.1 [] [] [],x.2):=by rw[gr,hc]
  simp only[fE,bb,aL]at H;by_cases dy:c=34
  ·subst dy;refine wk ?_;refine cR.mono (akR H iM hN hc) ?_ (λch w' h=>h.mono λh=>by rw[e,ag rfl,h];rfl);clear H;rintro v w⟨b,s',p,htx,rfl,V2,r2,o2,dG,hV2,ga,hp,H⟩;simp only[fE,bb,aL]at H;refine H.wg ?_;intro w H;exact⟨.mk 2 0 b [] [],s',ft p,by rw[e,ag rfl,htx];rfl,rfl,V2,r2,o2,dG,hV1.trans hV2,ga,tS hp,H.sx⟩
  have g34:c.toNat≠34:=λe=>dy (bL.1 e);by_cases uq:c=91
  ·subst uq;refine H.wn ?_;intro w b4 H;refine H.wg ?_;intro w H;replace H:=H.B8;have H3:=((H.br 9 1).perm (wH (l₁:=[_,_,_])).symm)
   have H4:=((H3.br 27 5).perm (wH (l₁:=[_,_,_,_])).symm)
   clear H H3;refine cR.mono (Vk (n:=n) (f:=gr n) (rb:=rb) (vb:=b4) (k:=3) (own:=.ay b2 [iv 0,iv 0,.slice none 0 0,.slice none 0 0,.slice none 0 0] 27::own) (N:=N) (U:=V1) (V:=V1) (s:=s) (Jw n) (aco ih (hE.up hV1) hN AU) (aS _) ⟨V1,r,o,hs,⟨none,0,0⟩,⟨none,0,0⟩,[],aS _,iM,Pw.nil,H4⟩ aa aa hN rfl rfl) ?_ (λch w' h=>h.mono λh=>by rw[e];rw[ae ai,ag rfl];rw[h];rfl);clear H4;rintro v w⟨rfl,y,hy,V2,r2,o2,dG,ns,ps,vh,hV2,ga,hP,H⟩;simp only[fE,CH,bb,aL]at H;refine H.wg ?_;intro w H;replace H:=H.perm (wH (l₁:=[_,_,_,_]));obtain⟨V3,aw,H,hps⟩:=H.aJ (λ_=>rfl) ai;replace H:=H.perm (wH (l₁:=[_,_,_]));obtain⟨V4,ar,H,hns⟩:=H.aJ (λ_=>rfl) ai;refine⟨.mk 3 0 [] y.1 y.2.1,y.2.2,⟨3,0,⟨none,0,0⟩,ns,ps⟩,?_,rfl,V4,r2,o2,dG,(hV1.trans hV2).trans (aw.trans ar),ga.up (aw.trans ar),?_,H.sx⟩
   ·rw[e];rw[ae ai,ag rfl];rw[hy];rfl
   exact .mk vh rfl rfl (aA.nil _ _) hns (hps.up ar) hP.len λi x p h1 h2=>(hP.all i x p h1 h2).up (aw.trans ar)
  have g91:c.toNat≠91:=λe=>uq (bL.1 e);by_cases uo:c=123
  ·subst uo;refine H.wn ?_;intro w b4 H;refine H.wg ?_;intro w H;replace H:=H.B8;have H3:=((H.br 9 1).perm (wH (l₁:=[_,_,_])).symm)
   have H4:=((H3.br 27 5).perm (wH (l₁:=[_,_,_,_])).symm)
   clear H H3;refine cR.mono (Vk (n:=n) (f:=gr n) (rb:=rb) (vb:=b4) (k:=4) (own:=.ay b2 [iv 0,iv 0,.slice none 0 0,.slice none 0 0,.slice none 0 0] 27::own) (N:=N) (U:=V1) (V:=V1) (s:=s) (Jw n) (acp ih (hE.up hV1) hN AU) (aS _) ⟨V1,r,o,hs,⟨none,0,0⟩,⟨none,0,0⟩,[],aS _,iM,Pw.nil,H4⟩ aa aa hN rfl rfl) ?_ (λch w' h=>h.mono λh=>by rw[e];rw[ae ai,ae ai,ag rfl];rw[h];rfl);clear H4;rintro v w⟨rfl,y,hy,V2,r2,o2,dG,ns,ps,vh,hV2,ga,hP,H⟩;simp only[fE,CH,bb,aL]at H;refine H.wg ?_;intro w H;replace H:=H.perm (wH (l₁:=[_,_,_,_]));obtain⟨V3,aw,H,hps⟩:=H.aJ (λ_=>rfl) ai;replace H:=H.perm (wH (l₁:=[_,_,_]));obtain⟨V4,ar,H,hns⟩:=H.aJ (λ_=>rfl) ai;refine⟨.mk 4 0 [] y.1 y.2.1,y.2.2,⟨4,0,⟨none,0,0⟩,ns,ps⟩,?_,rfl,V4,r2,o2,dG,(hV1.trans hV2).trans (aw.trans ar),ga.up (aw.trans ar),?_,H.sx⟩
   ·rw[e];rw[ae ai,ae ai,ag rfl];rw[hy];rfl
   exact .mk vh rfl rfl (aA.nil _ _) hns (hps.up ar) hP.len λi x p h1 h2=>(hP.all i x p h1 h2).up (aw.trans ar)
  have amE:c.toNat≠123:=λe=>uo (bL.1 e);refine wk ?_;refine cR.mono (agU (hE.up hV1) H iM hN hc) ?_ (λch w' h=>h.mono λh=>by rw[e,ae dy,ae uq,ae uo,h];rfl);clear H;rintro v w⟨z,s',hnu,rfl,V2,r2,o2,dG,hV2,ga,_,H⟩;simp only[fE,bb,aL]at H;refine H.wg ?_;intro w H;exact⟨.mk 1 z [] [] [],s',jo z,by rw[e,ae dy,ae uq,ae uo,hnu];rfl,rfl,V2,r2,o2,dG,hV1.trans hV2,ga,zK _ z,H.sx⟩
theorem Sat.km{tm:Array aj}(h:Sat env tm)(hd:∀t u,get? env t=some u->t≠d):Sat env (tm.setIfInBounds d v):=by intro t u hu;rw[Array.getElem?_setIfInBounds_ne (λe=>hd t u hu e.symm)];exact h t u hu
def N0(env:Env)(l:List Oper):Bool:=l.all λo=>match o.dst with|none=>true|some d=>env.all λp=>p.1 != d
theorem VM(h:(env.all λp=>p.1 != d)=true):∀t u,get? env t=some u->t≠d:=by
 induction env with
 | nil=>intro t u hu;simp[get?]at hu
 | cons p r ih =>
  obtain⟨s,x⟩:=p;simp only[Xf,eD]at h;intro t u hu;rcases Hn hu with⟨rfl,_⟩|hu
  ·simpa using h.1
  exact ih h.2 t u hu
theorem Sat.WQ{a:Act}{o:Oper}(h:Sat env a.tmps)(hd:(match o.dst with|none=>true|some d=>env.all λp=>p.1 != d)=true):Sat env (a.put o.dst v).tmps:=by
 cases ho:o.dst with
 | none=>exact h
 | some d =>rw[ho]at hd;exact h.km (VM hd)
theorem Qm{C:Cx}(hT:cg C.P C.T){env0:Env}{ops:List Oper}{Q:Exit->Act->ad->Prop}{K:Env->ad->Prop}{Z:List PanicEntry->ad->Prop}{ds:List Deferred}
  (hQ:∀env (a:Act) w,Sat env a.tmps->a.tmps.size=C.n->a.defers=ds->K env w->Q .normal a w) (hZ:∀(a:Act) w ch,Sat env0 a.tmps->a.tmps.size=C.n->a.defers=ds->Z ch w->Q (.panic ch) a w) :
  ∀ {l:List Oper} {env:Env} {a:Act} {w:ad},N0 env0 l=true->Sat env0 a.tmps->Sat env a.tmps->a.tmps.size=C.n->a.defers=ds->zM C ops l env w K Z->wpListIn (Fr C.r) 0 C.P ops.toArray Q l a w
 | [],env,a,w,_,_,hs,hn,hd,h=>hQ env a w hs hn hd h
 | o::rest,env,a,w,hno,h0,hs,hn,hd,h=>by
  unfold N0 at hno;rw[Xf,eD]at hno;unfold wpListIn;rw[ZC]at h;rcases AM h hs with⟨hw,aO,hs',h'⟩|⟨hw,aO,hs',h'⟩
  ·rw[ag hw];refine zP hT hs' h' (λv w' hk=>?_) (λch w' hz=>hZ a w' ch h0 hn hd hz);obtain⟨e6,h1,h2,h3,h4⟩:=mQ hk hs' hn;exact Qm hT hQ hZ hno.2 (h0.WQ hno.1) h1 h2 (h3.trans hd) h4
  rw[ae (by simp[hw])];refine⟨λ_ _=>trivial,?_⟩;obtain⟨e6,h1,h2,h3,h4⟩:=mQ h' hs' hn;exact Qm hT hQ hZ hno.2 (h0.WQ hno.1) h1 h2 (h3.trans hd) h4
theorem ai3(hT:cg C.P C.T)(env0:Env){id:Nat}{ops:Array Oper}{env:Env}{ds:List Deferred}{w:ad}{Q:iJ}(hno:N0 env0 ops.toList=true)(h0:qI env env0)
  (h:zM C ops.toList ops.toList env w (λaO w'=>mO aO C.live λe'=>Q .normal e' ds w') (λch w'=>Q (.panic ch) env0 ds w')):aM C (.region id ops false) env ds w Q:=by
 refine⟨λa hs hn hd=>?_⟩;refine wpIn_region_list ?_;have:=Qm (ops:=ops.toList) (ds:=ds) hT (env0:=env0) (Q:=λe a' w'=>a'.tmps.size=C.n/\∃aO,Sat aO a'.tmps/\Q e aO a'.defers w') (λaO a' w' h1 h2 h3 h4=>?_) (λa' w' ch h1 h2 h3 h4=>?_) hno (λt v ht=>hs t v (tM h0 t v ht)) hs hn hd h
 ·simpa using this
 ·obtain⟨e',h5,h6⟩:=tz h4;exact⟨h2,e',λt v ht=>h1 t v (h5 t v ht),h3▸h6⟩
 exact⟨h2,env0,h1,h3▸h4⟩
theorem ai2(hT:cg C.P C.T)(hr:C.r=none){id g d:Nat}{o1 o2:Oper}{cap:Array Operand}{env:Env}{ds:List Deferred}{w:ad}{Q:iJ}
  (h1:o1.op=.makeFunc (.func g) #[] cap) (g1:o1.guard=none) (d1:o1.dst=some d) (h2:o2.op=.defer ⟨.value (.tmp d),#[],#[]⟩) (g2:o2.guard=none) (d2:o2.dst=none) (hd:d<C.n)
  (h:j2 env cap.toList λvs=>Q .normal env ({ target:=.fn (.func g) vs.toArray,args:=#[] }::ds) w) (hno:(env.all λp=>p.1 != d)=true):aM C (.region id #[o1,o2] false) env ds w Q:=by
 refine⟨λa hs hn hdf=>?_⟩;refine wpIn_region_list ?_;have hv:nQ C o1.op o1.type env w (λv w'=>(∃vs:aC,v=.func (.func g) #[] vs.toArray/\Q .normal env ({ target:=.fn (.func g) vs.toArray,args:=#[] }::ds) w')/\w'=w) (λ_ _=>False):=by
  rw[h1];have key:∀(l:List Operand) (k:aC->Prop) (k':aC->Prop),(∀vs,k vs->k' vs)->j2 env l k->j2 env l k':=by
   intro l;induction l with
   | nil=>exact λk k' hk h=>hk _ h
   | cons x l ih =>
    intro k k' hk h;cases x with
    | tmp t =>obtain⟨v,h3,h4⟩:=vE.1 h;exact vE.2 ⟨v,h3,ih _ _ (λvs=>hk _) h4⟩
    | const v=>exact ih _ _ (λvs=>hk _) h
    | global g=>exact ih _ _ (λvs=>hk _) h
    | func f=>exact ih _ _ (λvs=>hk _) h
  exact key cap.toList _ _ (λvs hq=>⟨⟨vs,rfl,hq⟩,rfl⟩) h
 show wpListIn (Fr C.r) 0 C.P #[o1,o2] _ [o1,o2] a w;unfold wpListIn;rw[ag (by simp[Region.wanted,g1])];refine zP hT hs hv (λv w' hk=>?_) (λch w' hz=>hz.elim);obtain⟨⟨vs,rfl,hq⟩,rfl⟩:=hk;unfold wpListIn;rw[ag (by simp[Region.wanted,g2])];refine⟨λ_ _=>trivial,?_⟩;have e:(Fr C.r).round=none:=by show C.r=none;exact hr
 have ev:(a.put o1.dst (.func (.func g) #[] vs.toArray)).eval (.tmp d)=.func (.func g) #[] vs.toArray:=by
  rw[d1];have:d<a.tmps.size:=by rw[hn];exact hd
  simp[Act.eval,Act.put,Jn,this]
 rw[e,Oper.semAt_none];simp only[execOp,h2,resolve,ev,Deferred.ofValue,Sem.run_bind,Sem.run_pure,Result.andThen_ok];rw[Oper.uponIn_defer];have em:#[]++Array.map (a.put o1.dst (.func (.func g) #[] vs.toArray)).eval #[]=#[]:=ah;rw[em,d1,d2];refine wpListIn_nil ⟨by simp[Act.put,hn],env,hs.km (VM hno),?_⟩;have:(({ a.put (some d) (.func (.func g) #[] vs.toArray)with defers:={ target:=.fn (.func g) vs.toArray,args:=#[] }::(a.put (some d) (.func (.func g) #[] vs.toArray)).defers }:Act).put none undef).defers={ target:=.fn (.func g) vs.toArray,args:=#[] }::ds:=by simp[Act.put,hdf]
 rw[this];exact hq
theorem abe{T:List TD}(hT:cg P T){f g:FuncId}{fn:Func}{c:Code}{args:aC}{w:ad}{K:aj->ad->Prop}
  (hf:P.funcs[f]?=some fn) (hb:fn.body=some c) (hname:(fn.name == "runtime.NumGoroutine")=false) (n:Nat) (hn:fn.ntmps=n) (ha:args.length<=n) (live:au) (hg:Enters P g)
  (h:aM ⟨P,T,n,live,none⟩ c (nc 0 args) [] w λe env ds w=>∃cap:aC,ds=[{ target:=.fn (.func g) cap.toArray,args:=#[] }]/\match e with
   | .ret=>CallsDIn (Fr none) 0 P g cap.toArray .returning w λe u' w'=>(∃v,e=.returned v)/\u'=.returning/\tG ⟨P,T,n,live,none⟩ fn.results.toList env w' λv=>K v w'
   | .panic ch=>∃x,ch=[{ v:=x,recovered:=false }]/\CallsDIn (Fr none) 0 P g cap.toArray (.panicking [{ v:=x,recovered:=false }]) w λe u' w'=>(∃v,e=.returned v)/\u'=.panicking [{ v:=x,recovered:=true }]/\tG ⟨P,T,n,live,none⟩ fn.results.toList env w' λv=>K v w'
   | _=>False):fY P f args.toArray w K:=by
 refine⟨.inl ⟨xG hf (by simp[hb]) hname,(CS (r:=none) (n:=0)).1 ?_⟩⟩;refine callsIn_of_wp_marks hf hb trivial ?_;have hs:Sat (nc 0 args) (args.toArray++Array.replicate (fn.ntmps-args.toArray.size) undef):=Gw;refine wpIn_mono (h.out { tmps:=args.toArray++Array.replicate (fn.ntmps-args.toArray.size) undef,defers:=[] } hs (by simp;omega) rfl) ?_;rintro e a w'⟨h1,aO,h2,cap,hds,h3⟩;have hinv:∀w,(invoke (.fn (.func g) cap.toArray) #[]).run P w=.ok (.enter g cap.toArray) w:=by intro w;have:=hg cap.toArray w;simpa [invoke]using this
 have fin:∀ {w'},(tG ⟨P,T,n,live,none⟩ fn.results.toList aO w' λv=>K v w')->∃v,(results fn a.tmps).run P w'=.ok v w'/\K v w':=by intro w' h;exact JD (C:=⟨P,T,n,live,none⟩) hT h2 h
 cases e with
 | ret =>show LeavesInM _ _ _ _ _ _ a.defers _ _;rw[hds];refine⟨ah,.inr ⟨λh=>by simp[Fr,Fence.wide]at h,_,_,g,cap.toArray,rfl,hinv w',λ_ _=>trivial,h3.mono ?_⟩⟩;rintro e u' vi⟨⟨v,rfl⟩,rfl,hk⟩;obtain⟨v,hr,hk⟩:=fin hk;exact⟨v,hr,hk⟩
 | panic ch =>obtain⟨x,rfl,h3⟩:=h3;show LeavesInM _ _ _ _ _ _ a.defers _ _;rw[hds];refine⟨ah,.inr ⟨λh=>by simp[Fr,Fence.wide]at h,_,_,g,cap.toArray,rfl,hinv w',λ_ _=>trivial,h3.mono ?_⟩⟩;rintro e u' vi⟨⟨v,rfl⟩,rfl,hk⟩;obtain⟨v,hr,hk⟩:=fin hk;exact⟨v,hr,hk⟩
 | normal=>exact h3.elim
 | exit id=>exact h3.elim
 | goto l=>exact h3.elim
 | outgrown=>exact h3.elim
theorem XF(hT:cg C.P C.T)(hr:C.r=none){f:FuncId}{fn:Func}{args:aC}{id t u:Nat}{o1 o2:Oper}{x:Code}{m m':FrameMode}{v:aj}{w:ad}{R:Ending->FrameMode->ad->Prop}
  (hf:C.P.funcs[f]?=some fn) (hb:fn.body=some (.seq (.region id #[o1,o2] false) x)) (hn:fn.ntmps=C.n) (hl:args.length<=C.n)
  (h1:∀(a:Act) (w:ad),(execOp a.eval o1).run C.P w=.ok .recover w) (g1:o1.guard=none) (d1:o1.dst=some t) (h2:o2.op=.assign (.tmp t)) (g2:o2.guard=none) (d2:o2.dst=some u) (ht:t<C.n) (hu:u<C.n)
  (hm:∀(qY:Frame) cs,qY.mode=m->(recoverD (qY::cs)=some (v,{ qY with mode:=m' }::cs))\/(recoverD (qY::cs)=none/\v=.nilIface/\m'=m))
  (h:aM C x ((u,v)::(t,v)::nc 0 args) [] w λe env ds w=>ds=[]/\(match e with
   | .normal=>tG C fn.results.toList env w λq=>R (.returned q) m' w
   | _=>False)):CallsDIn (Fr none) 0 C.P f args.toArray m w R:=by
 refine callsDIn_of_wpSIn hf hb trivial ?_;intro qY cs Uu;refine wpSIn_seq ?_;refine wpSIn_region ?_;have hs:Sat (nc 0 args) (args.toArray++Array.replicate (fn.ntmps-args.toArray.size) undef):=Gw;generalize ha:({ tmps:=args.toArray++Array.replicate (fn.ntmps-args.toArray.size) undef,defers:=[] }:Act)=a;have hs:Sat (nc 0 args) a.tmps:=by rw[<-ha];exact hs
 have hz:a.tmps.size=C.n:=by rw[<-ha];simp;omega
 have hd:a.defers=[]:=by rw[<-ha]
 show wpOpsSIn _ _ _ _ _ [0,1] _ _ _;have w1:Region.wanted o1 (yielded #[o1,o2] a.tmps)=true:=by simp[Region.wanted,g1]
 have key:∀K1,K1={ qY with mode:=m' }::cs->wpOpsSIn (Fr none) 0 C.P #[o1,o2] (Exit.thenS (x.wpSIn (Fr none) 0 C.P (bodyPostS C.P fn qY cs R)) (bodyPostS C.P fn qY cs R)) [1] (a.put o1.dst v) K1 w:=by
  intro K1 hcs;subst hcs;have w2:Region.wanted o2 (yielded #[o1,o2] (a.put o1.dst v).tmps)=true:=by simp[Region.wanted,g2]
  have ev:(a.put o1.dst v).eval (.tmp t)=v:=by
   rw[d1];have:t<a.tmps.size:=by rw[hz];exact ht
   simp[Act.eval,Act.put,Jn,this]
  simp only[wpOpsSIn];rw[show(#[o1,o2]:Array Oper)[1]?=some o2 from rfl];dsimp only;refine⟨λ_ _=>trivial,?_⟩;rw[ag w2];have hx:(execOp (a.put o1.dst v).eval o2).run C.P w=.ok (.value v) w:=by simp[execOp,h2,ev]
  rw[hx];show Code.wpSIn _ _ _ _ _ _ _ _;refine wpSIn_of_wpIn rfl ?_;have aeK:Sat ((u,v)::(t,v)::nc 0 args) ((a.put o1.dst v).put o2.dst v).tmps:=by rw[d1,d2];refine Sat.put (Sat.put hs (by rw[hz];exact ht) v) ?_ v;simp[hz,hu]
  have:=h.out ((a.put o1.dst v).put o2.dst v) aeK (by rw[d1,d2];simp[Act.put,hz]) (by rw[d1,d2];exact hd);rw[hr]at this;refine wpIn_mono this λe a' w' ⟨q1,aO,q2,q3,q4⟩=>?_;cases e with
  | normal =>obtain⟨q,hq,hk⟩:=JD (C:=C) hT q2 q4;exact⟨q3,m',rfl,q,hq,hk⟩
  | ret=>exact q4.elim
  | panic ch=>exact q4.elim
  | exit id=>exact q4.elim
  | goto l=>exact q4.elim
  | outgrown=>exact q4.elim
 rw[wpOpsSIn,show(#[o1,o2]:Array Oper)[0]?=some o1 from rfl];dsimp only;refine⟨λ_ _=>trivial,?_⟩;rw[ag w1,h1];dsimp only;rcases hm qY cs Uu with h3|⟨h3,h4,h5⟩
 ·rw[h3];exact key _ rfl
 rw[h3];dsimp only;rw[<-h4];refine key _ ?_;rw[h5,<-Uu]
section
variable{V0 w0 V W w:ad}
abbrev amw:aC:=[iv 0,iv 0,.slice none 0 0,.slice none 0 0,.slice none 0 0]
theorem abE{b2 b3 b4:Nat}{c2:aC}{c3:aj}{c4:Bool}(h2:c2.length=5)(H:Rel w0 V0 [.ay b4 [.bool c4] 4,.ay b3 [c3] 195,.ay b2 c2 27] V w) :
  CallsDIn (Fr none) 0 Tryz.prog 243 [.pointer (some ⟨b2,0,none⟩),.pointer (some ⟨b3,0,none⟩),.pointer (some ⟨b4,0,none⟩)].toArray (.panicking [Cy]) w λe u' w'=>(∃v,e=.returned v)/\u'=.panicking [{ v:=Cy.v,recovered:=true }]/\Rel w0 V0 [.ay b4 [.bool false] 4,.ay b3 [.slice none 0 0] 195,.ay b2 amw 27] V w':=by
 obtain⟨x0,x1,x2,x3,x4,rfl⟩:∃x0 x1 x2 x3 x4,c2=[x0,x1,x2,x3,x4]:=by
  match c2,h2 with
  | [x0,x1,x2,x3,x4],_=>exact⟨x0,x1,x2,x3,x4,rfl⟩
 refine XF (C:=⟨Tryz.prog,lB,8,[0,1,2,3,6],none⟩) (t:=4) (u:=3) (v:=Cy.v) (m':=.panicking [{ v:=Cy.v,recovered:=true }]) al rfl Tryz.func243 rfl rfl ah (λ_ _=>rfl) rfl rfl rfl rfl rfl ai ai (λqY cs h=>.inl (by simp[recoverD,h])) ?_;refine aM.cA al ?_;refine wk ?_;refine aM.go al ?_;refine H.wg ?_;intro _ _ w H;exact⟨⟨_,rfl⟩,rfl,H⟩
theorem abF{b2 b3 b4:Nat}(H:Rel w0 V0 own V w) :
  CallsDIn (Fr none) 0 Tryz.prog 243 [.pointer (some ⟨b2,0,none⟩),.pointer (some ⟨b3,0,none⟩),.pointer (some ⟨b4,0,none⟩)].toArray .returning w λe u' w'=>(∃v,e=.returned v)/\u'=.returning/\Rel w0 V0 own V w':=by
 refine XF (C:=⟨Tryz.prog,lB,8,[0,1,2,3,6],none⟩) (t:=4) (u:=3) (v:=.nilIface) (m':=.returning) al rfl Tryz.func243 rfl rfl ah (λ_ _=>rfl) rfl rfl rfl rfl rfl ai ai (λqY cs h=>.inr ⟨by simp[recoverD,h],rfl,rfl⟩) ?_;refine aM.cA al ?_;refine wk ?_;refine aM.go al ?_;refine wk ?_;exact⟨⟨_,rfl⟩,rfl,H⟩
end
section
variable{V W w:ad}
theorem aiY(hE:pQ V)(hV:Sub V W){sl:Sl}{l:ab}(hs:aF V sl l)(hl:l.length<=1000):aB 160 [sl.v] W λq w'=>∃(V':ad) (h:VH) (r:Sl) (hs:List mV),Sub V V'/\Rel W V [] V' w'/\(match sL l with
  | none=>q=.tuple #[gw h,r.v,.bool false]
  | some (v,o)=>q=.tuple #[gw h,r.v,.bool true]/\cb V' h v/\aA oW V' r hs/\Pw pK V' hs o):=by
 have H:=aG hV;refine abe (g:=243) al Tryz.func160 rfl av 25 rfl ah [0,2,3,4,5] (xG Tryz.func243 av av) ?_;refine aM.cA al ?_;refine H.wn ?_;intro w b2 H;refine H.wn ?_;intro w b3 H;refine H.wn ?_;intro w b4 H;refine wk ?_;refine aM.seq ?_;refine ai2 (g:=243) (d:=6) al rfl rfl rfl rfl rfl rfl rfl ai ?_ rfl;conv=>whnf
 have H1:=H;clear H;have H:=aG H1.data;refine aM.cA al ?_;refine H.wn ?_;intro w b5 H;refine wk ?_;replace H:=(H.br 206 2).swap;have hlen:=hs.len;refine aM.seq (ai3 al [(2,.pointer (some ⟨b2,0,none⟩)),(3,.pointer (some ⟨b3,0,none⟩)),(4,.pointer (some ⟨b4,0,none⟩))] rfl sB ?_);refine wk ?_;refine cR.mono (Zy (l.length+1) _ _ _ _ [] b5 1000 sl ⟨none,0,0⟩ [] ⟨l,0,[],[]⟩ hE H ⟨hs,Pw.nil,by show 0+l.length<=1000;omega,aQ _⟩ aa (sj _)) ?_ ?_;rotate_left
 ·intro ch w' hbad;refine⟨[.pointer (some ⟨b2,0,none⟩),.pointer (some ⟨b3,0,none⟩),.pointer (some ⟨b4,0,none⟩)],rfl,?_⟩;have hno:sL l=none:=by unfold sL;rw[hbad.why]
  refine⟨Cy.v,hbad.ch,(abE rfl (H1.ext hbad.ext)).mono ?_⟩;rintro e u' vi⟨h1,h2,H2⟩;refine⟨h1,h2,?_⟩;clear H;have H:=H2;rw[hno];refine wk ?_;exact⟨V,aV,⟨none,0,0⟩,[],aS _,H.sx,rfl⟩
 rintro v w⟨v1,s',h1,hrd,rfl,V1,r1,o1,hs1,hV1,iM,jH,H⟩;replace H:=H1.call H;simp only[fE,bb,aL]at H;refine H.wg ?_;intro w H;refine aM.cA al ?_;refine wk ?_;refine(Yd H iM aa true).use ?_;clear H;rintro v w⟨rfl,V2,r2,o2,dG,hV2,ga,_,H⟩;rw[ag rfl]at ga H;simp only[fE,bb,aL]at H;have dF:=ga.ol;have hoth:=ga.ia;have hr2:=ga.rest.len;have e:sL l=if(sK [10] s').rest=[]then some (v1,(sK [10] s').ia)else none:=by unfold sL;rw[hrd]
 obtain⟨V3,aw,H,hb5⟩:=H.cU;obtain⟨V4,ar,H,ho2⟩:=H.aJ (λ_=>rfl) ai;have c0:V4.cell? ⟨b5,0,none⟩=some r2.v:=ar.cell (hb5.cS rfl);have c3:V4.cell? ⟨b5,3,none⟩=some o2.v:=ar.cell (hb5.cS rfl);refine wk ?_;refine aM.cA al ?_;refine dX (id:=5) V4 [11,12] [4,8] [0,1,2,3,4,5,6,7,8,9,10,11,12,13] [(11,[]),(12,[11]),(13,[11,12])] H ?_;intro w H;repeat' ((first|(refine H.zQ ?_;intros;rename_i w H;constructor)|refine wk ?_);(first|refine Kv.go H ?_|refine Kv.go2 H (by assumption) ?_|refine jI ?_|refine And.intro ?_ ?_|(refine H.nA ?_;intro w _ H)))
 refine H.wh ?_;intro w H;refine aM.go al ?_;conv=>whnf
 refine⟨[.pointer (some ⟨b2,0,none⟩),.pointer (some ⟨b3,0,none⟩),.pointer (some ⟨b4,0,none⟩)],rfl,(abF H).mono ?_⟩;rintro q u' vi⟨q1,q2,H2⟩;refine⟨q1,q2,?_⟩;clear H;have H:=H2;refine wk ?_;refine⟨V4,h1,o2,dG,hV1.trans (hV2.trans (aw.trans ar)),H.sx,?_⟩;rw[e];by_cases h0:(sK [10] s').rest=[]
 ·rw[ag h0];have:r2.len=0:=by rw[hr2,h0];rfl
  rw[this];exact⟨rfl,jH.up (hV2.trans (aw.trans ar)),ho2,hoth.up pK.up (aw.trans ar)⟩
 rw[ae h0];have:r2.len≠0:=λe=>h0 (dt (hr2.symm.trans e));rw[bA aa]
end
abbrev tU:=kG×Sl
abbrev Al(p:tU):aC:=[iv ((p.1.1:Nat):Int),p.2.v]
theorem aa4{hs:List mV}{o:List kG}(h:aA oW V s hs)(hp:Pw pK V hs o):∃ps:List tU,aA Al V s ps/\ps.map Prod.fst=o/\∀p∈ps,aF V p.2 p.1.2:=by
 have hl:=hp.len;refine⟨o.zip (hs.map Prod.snd),?_,?_,?_⟩
 ·have e:(o.zip (hs.map Prod.snd)).flatMap Al=hs.flatMap oW:=by
   clear h;induction hs generalizing o with
   | nil =>
    cases o with
    | nil=>rfl
    | cons y o=>simp at hl
   | cons x hs ih =>
    cases o with
    | nil=>simp at hl
    | cons y o =>
     have h0:=(hp.all 0 x y rfl rfl).1;have ht:Pw pK V hs o:=⟨by simpa using hl,λk a b h1 h2=>hp.all (k+1) a b h1 h2⟩
     rw[fO,List.zip_cons_cons,bD,bD,ih ht (by simpa using hl)];simp only[Al,oW,h0]
  exact⟨by rw[h.len];simp[hl],h.cap,by rw[e];exact h.cells⟩
 ·rw[List.map_fst_zip];simp[hl]
 intro p M9;obtain⟨i,hi⟩:=List.mem_iff_getElem?.1 M9;rw[List.getElem?_zip_eq_some]at hi;obtain⟨h1,h2⟩:=hi;rw[ib]at h2;obtain⟨x,hx,h3⟩:=iB.1 h2;rw[<-h3];exact(hp.all i x p.1 hx h1).2
theorem adg{p:tU}(hV:Sub V W)(hb:aF V p.2 p.1.2)(h1:p.1.1<=100000)(h2:p.1.2.length<=100000):aB 247 [.agg (Al p).toArray] W λv w'=>∃r:Sl,v=r.v/\Rel W V [.row r 5 1 ((gC p.1).flatMap aI)] V w':=by have H:=aG hV;have a1:=dq (n:=((p.1.1:Nat):Int)) aa aa;have a2:=rW (b:=p.1.2) aa;refine eV Tryz.func247 10 [0,1,2] ?_;refine H.wn ?_;intro w b1 H;obtain⟨V1,hV1,H,hb1⟩:=H.cU;have c0:V1.cell? ⟨b1,0,none⟩=some (iv ((p.1.1:Nat):Int)):=hb1.cS rfl;have c1:V1.cell? ⟨b1,1,none⟩=some p.2.v:=hb1.cS rfl;refine wk ?_;refine dV 1 [2] [0,1,3,4,2,5,6,7] H ?_;intro w H;refine wk ?_;refine(jW H.data (by constructor<;>omega)).use ?_;rintro v w⟨r1,rfl,K⟩;replace H:=H.cq K;refine wk ?_;refine(Aq H.data (hb.up hV1) aa).use ?_;rintro v w⟨r2,rfl,K⟩;replace H:=H.cq K;refine wk ?_;refine Rel.eB H (i:=0) rfl aa ?_;intro r3 w H;refine wk ?_;exact⟨r3,rfl,H.sx.back⟩
theorem aka(hV:Sub V W){s:Sl}{l:List tU}(hs:aA Al V s l){g:FuncId}{cap:aC}{enc:tU->ab}(hone:∀x∈l,vn V g cap ((λp=>.agg (Al p).toArray) x) (enc x))(hll:l.length<=1099511627776)(hb:(cm enc l).length<=1099511627776) :
  aB 246 [s.v,.func (.func g) #[] cap.toArray] W λv w'=>∃r:Sl,v=r.v/\Rel W V [.row r 5 1 ((cm enc l).flatMap aI)] V w':=by
 have H:=aG hV;have hlen:=hs.len;rw[cm,ak]at hb;refine eV Tryz.func246 24 [0,1,4,5,7,11,12,13,14] ?_;refine wk ?_;rw[hlen];refine(jW (n:=l.length) H.data (by constructor<;>omega)).use ?_;rintro v w⟨r0,rfl,K⟩;replace H:=H.call K;refine wk ?_;refine aP (S:=Nat×Sl) al [0,1,4,11,12] (λk=>[(5,k.2.v),(13,iv k.1)]) (λk w'=>k.1<=l.length/\∃V1,Sub V V1/\Rel W V [.row k.2 5 1 ((az l.length++(l.take k.1).flatMap enc).flatMap aI)] V1 w') (λk _=>l.length-k.1) (0,r0) ?_;conv=>whnf
 refine⟨sB,⟨aa,V,aS _,by simpa using H⟩,?_⟩;clear H;rintro⟨k,r⟩w⟨hk,V1,hV1,H⟩;dsimp only at hk H;by_cases hlt:k<l.length;rotate_left
 ·refine wk ?_;rw[bJ aa]at H;exact⟨r,rfl,H.back⟩
 have hbl:=vD (enc:=enc) hlt;obtain⟨hp,jF,iA⟩:=(hs.up hV1).fF (g:=λr:tU=>iv ((r.1.1:Nat):Int)) (g':=λr:tU=>r.2.v) (λ_=>rfl) hlt;refine H.wg ?_;intro _ _ w H;refine(hone l[k] (bS hlt) V1 w hV1 H.data).use ?_;rintro v w⟨V2,x,hV2,rfl,hx,K⟩;replace H:=H.call K;simp only[aL]at H;refine wk ?_;refine Rel.jO H (i:=1) rfl hx (by simp only[ak];omega) ?_;intro rn w H;rw[Hi hlt]at H;refine wk ?_;exact⟨sB,(k+1,rn),sB,⟨aa,V2,hV1.trans hV2,H.sx⟩,aa⟩
theorem adj(hV:Sub V W){s:Sl}{hs:List mV}{o:List kG}(h:aA oW V s hs)(hp:Pw pK V hs o)(hl:o.length<=1000)(hb:∀x∈o,x.1<=2000/\x.2.length<=1000):aB 161 [s.v] W λv w'=>∃(V':ad) (r:Sl),Sub V V'/\v=r.v/\aF V' r (nN o)/\Rel W V [] V' w':=by
 have H:=aG hV;obtain⟨ps,h1,h2,h3⟩:=aa4 h hp;have fu:=h1.len;have hpl:ps.length=o.length:=by rw[<-h2];simp
 have uE:cm (λp:tU=>gC p.1) ps=cm gC o:=by rw[<-h2];simp only[cm,aW,List.flatMap_map]
 have hpb:(cm gC o).length<=70000000:=by
  have:=wD (f:=gC) (m:=2000) (l:=o) aa λx hx=>by obtain⟨a,b⟩:=hb x hx;have h1:=dq (n:=(x.1:Int)) aa aa;have h2:=rW (b:=x.2) aa;simp only[gC,ak];omega
  have h3:=kr 2000 hl;omega
 have hmem:∀p∈ps,p.1∈o:=λp hp=>by rw[<-h2];exact List.mem_map.2 ⟨p,hp,rfl⟩
 refine eV Tryz.func161 8 [0,2,5] ?_;by_cases h0:o=[]
 ·have:s.len=0:=by rw[fu,hpl,h0];rfl
  refine wk ?_;refine⟨V,⟨none,0,0⟩,aS _,rfl,?_,H.sx⟩;rw[nN,ag h0];exact aA.nil _ _
 have:s.len≠0:=by rw[fu,hpl];exact λh=>h0 (dt h)
 refine wk ?_;refine(aka H.data h1 (enc:=λp:tU=>gC p.1) (g:=247) (cap:=[]) (λp hp=>IH λV1 W1 q1 q2=>adg q1 ((h3 p hp).up q2) (by have:=hb _ (hmem p hp);omega) (by have:=hb _ (hmem p hp);omega)) aa (by rw[uE];omega)).use ?_;rintro v w⟨r,rfl,K⟩;replace H:=H.cq K;refine wk ?_;obtain⟨V2,hV2,H,hr⟩:=H.aJ (λ_=>rfl) ai;rw[uE]at hr;exact⟨V2,r,hV2,rfl,by rw[nN,ae h0];exact hr,H.sx⟩
theorem Lu(hV:Sub V W)(c i:Int):aB 159 [iv c,iv i] W λv w'=>v=kV c i/\Rel W V [] V w':=by have H:=aG hV;refine eV Tryz.func159 8 [0,1,4] ?_;refine H.wg ?_;intro _ _ w H;exact H.sx
theorem ak3(hV:Sub V W)(hE:pQ V){s:Sl}{l:ab}(hs:aF V s l)(hl:l.length<=1099511627776):aB 67 [s.v] W (mY W V (cH (iG l) l.length)):=by
 have H:=aG hV;have hlen:=hs.len;refine eV Tryz.func67 33 [0,2,3,4,5,6,7,10,26] ?_;refine H.wn ?_;intro w b2 H;refine H.wn ?_;intro w b4 H;by_cases dz:1000<l.length
 ·have e:cH (iG l) l.length=⟨zeroV,[],3, -1⟩:=by unfold cH;rw[ag dz]
  rw[e];refine wk ((Lu H.data 3 (-1)).use ?_);rintro v w⟨rfl,K⟩;replace H:=Rel.call H K;simp only[aL]at H;refine H.wg ?_;intro _ w H;exact⟨V,aV,⟨none,0,0⟩,aS _,H.sx,rfl,cG _,aA.nil _ _⟩
 refine wk ?_;refine(aiY hE H.data hs aa).use ?_;rintro v w⟨V2,h,r,hh,hV2,K,hres⟩;replace H:=Rel.call H K;simp only[aL]at H;cases hf:sL l with
 | none =>
  rw[hf]at hres;obtain rfl:=hres;have e:cH (iG l) l.length=⟨zeroV,[],21, -1⟩:=by unfold cH;rw[ae dz,iG,hf]
  rw[e];refine H.wn ?_;intro w b5 H;refine H.wg ?_;intro w H;refine(Lu H.data 21 (-1)).use ?_;rintro v w⟨rfl,K⟩;replace H:=Rel.call H K;simp only[aL]at H;refine H.wg ?_;intro _ w H;exact⟨V2,aV,⟨none,0,0⟩,hV2,H.sx,rfl,cG _,aA.nil _ _⟩
 | some y =>
  obtain⟨vv,o⟩:=y;rw[hf]at hres;obtain⟨rfl,hv,hr,hp⟩:=hres;obtain⟨L,lb,F,rfl⟩:=YQ hf;obtain⟨q1,q2,q3,q4⟩:=F.bounds aa;have q8:=F.vb aa;have hto:iG l=if(ct vv).1=0 then some (vv,nN (lg L lb))else none:=by unfold iG;rw[hf]
  refine H.wn ?_;intro w b5 H;refine H.wg ?_;intro w H;refine(Ct H.data hv q8).use ?_;rintro q w⟨rfl,K⟩;replace H:=Rel.call H K;simp only[aL]at H;by_cases hvf:(ct vv).1=0;rotate_left
  ·have e:cH (iG l) l.length=⟨zeroV,[],21, -1⟩:=by unfold cH;rw[ae dz,hto,ae hvf]
   rw[e];refine wk ((Lu H.data 21 (-1)).use ?_);rintro v w⟨rfl,K⟩;replace H:=Rel.call H K;simp only[aL]at H;refine H.wg ?_;intro _ w H;exact⟨V2,aV,⟨none,0,0⟩,hV2,H.sx,rfl,cG _,aA.nil _ _⟩
  have e:cH (iG l) l.length=⟨vv,nN (lg L lb),0,0⟩:=by unfold cH;rw[ae dz,hto,ag hvf]
  rw[e,zO hvf];refine wk ?_;refine dV 6 [2] [0,1,3,2,4,5,6] H ?_;intro w H;refine wk ?_;refine(adj H.data hr hp q1 (λx hx=>by have:=q3 x hx;exact this.1)).use ?_;rintro v w⟨V4,r2,ar,rfl,hr2,K⟩;replace H:=Rel.call H K;simp only[aL]at H;refine H.wg ?_;intro _ w H;exact⟨V4,_,r2,hV2.trans ar,H.sx,rfl,hv.up ar,hr2⟩
abbrev rv(c:Nat):aj:=.int .i32 (c:Int)
abbrev fC(c:Nat):aC:=[rv c]
abbrev eX(r:bV):aC:=[iv r.1,iv r.2]
abbrev wO(e:Int)(r:Sl):aC:=[iv e,r.v]
theorem F6{c:Nat}(h:x=c)(hc:c<2147483648):[bO .i32 (wr .i32 x)]=fC c:=by
 have e:wr .i32 x=x:=by subst h;unfold wr;simp only[IntKind.wrap,IntKind.bits,IntKind.signed];simp;omega
 rw[e,h]
theorem oy{α:Type}(a b:List α)(o:Option (List α)):(o.map (b++·)).map (a++·)=o.map ((a++b)++·):=by cases o<;>simp
theorem uN{c:Nat}(h:eg c):c<1114112:=by unfold eg at h;omega
theorem Hc(hV:Sub V W)(c i:Int):aB 118 [iv c,iv i] W λv w'=>v=kV c i/\Rel W V [] V w':=by have H:=aG hV;refine eV Tryz.func118 8 [0,1,4] ?_;refine H.wn ?_;intro w b1 H;refine H.wg ?_;intro w H;exact H.sx
theorem qV(n a b:Int)(w:ad):aB 201 [iv n,iv a,iv b] w λv w'=>v=.bool (decide (a<=n/\n<b))/\w=w':=by
 refine eV Tryz.func201 15 [0,1,2,6] ?_;conv=>whnf
 refine gj (λh1=>?_) (λh1=>?_)
 ·conv=>whnf
  exact⟨ax ic (decide_eq_decide.2 ⟨λh=>⟨h1,h⟩,λh=>h.2⟩),rfl⟩
 conv=>whnf
 exact⟨ax ic (bA (λh=>h1 h.1)).symm,rfl⟩
theorem aca(hV:Sub V W)(c:Nat):aB 121 [rv c] W λv w'=>v=.bool (decide (mB c))/\Rel W V [] V w':=by
 have H:=aG hV;refine eV Tryz.func121 25 [0,2] ?_;by_cases h0:c<32
 ·by_cases h1:c=9
  ·rw[bA aa];refine wk ?_;exact H
  by_cases h2:c=10
  ·rw[bA aa];refine wk ?_;exact H
  by_cases h3:c=13
  ·rw[bA aa];refine wk ?_;exact H
  rw[bw aa];refine wk ?_;exact H
 by_cases h1:127<=c
 ·refine wk ?_;exact⟨ax ic (decide_eq_decide.2 aa),H⟩
 rw[bA aa];refine wk ?_;exact H
theorem abN(hV:Sub V W){s:Sl}{l:au}(hs:aA fC V s l)(hl:l.length<=1099511627776){g:FuncId}{caps:aC}(p:Nat->Bool)
  (hg:∀x∈l,∀w:ad,Sub V w->tF g (rv x::caps).toArray w λv w'=>v=.bool (p x)/\Rel w V [] V w') :
  aB 120 [s.v,.func (.func g) #[] caps.toArray] W λv w'=>v=.bool (l.any p)/\Rel W V [] V w':=by
 have key:aB 194 [s.v,.func (.func g) #[] caps.toArray] W λv w'=>(∃i:Int,v=iv i/\(0<=i↔l.any p=true))/\Rel W V [] V w':=by
  have H:=aG hV;have hlen:=hs.len;refine eV Tryz.func194 19 [0,1,4,5,7,8,9,16] ?_;refine wk ?_;refine aP (S:=Nat) al [0,1,7] (λk=>[(8,iv k)]) (λk w'=>k<=l.length/\(l.take k).any p=false/\Rel W V [] V w') (λk _=>l.length-k) 0 ?_;conv=>whnf
  refine⟨sB,⟨aa,ah,H⟩,?_⟩;clear H;rintro k w⟨hk,hz,H⟩;by_cases hlt:k<l.length
  ·obtain⟨hp,hc⟩:=hs.oa (g:=rv) (λ_=>rfl) hlt;refine wk ((hg l[k] (bS hlt) _ H.data).use ?_);rintro v w⟨rfl,K⟩;replace H:=H.call K;conv=>whnf
   refine Au (λh1=>?_) (λh1=>?_)
   ·refine wk ?_;refine⟨⟨k,rfl,λ_=>?_,λ_=>by omega⟩,H⟩;rw[wF];exact⟨l[k],bS hlt,h1⟩
   refine wk ?_;exact⟨sB,k+1,sB,⟨aa,by rw[Gv hlt,hz,h1];rfl,H⟩,aa⟩
  refine wk ?_;refine⟨⟨-1,rfl,λh=>by omega,λh=>?_⟩,H⟩;rw[bJ aa]at hz;rw[hz]at h;cases h
 refine eV Tryz.func120 9 [0,1,4] ?_;conv=>whnf
 refine key.use ?_;rintro v w⟨⟨i,rfl,hi⟩,H⟩;conv=>whnf
 refine⟨?_,H⟩;simp only[hi];cases l.any p<;>rfl
theorem abO(hV:Sub V W){s:Sl}{l:List bV}(hs:aA eX V s l)(hl:l.length<=1099511627776){g:FuncId}{caps:aC}(p:bV->Bool)
  (hg:∀x∈l,∀w:ad,Sub V w->tF g (.agg (eX x).toArray::caps).toArray w λv w'=>v=.bool (p x)/\Rel w V [] V w') :
  aB 264 [s.v,.func (.func g) #[] caps.toArray] W λv w'=>v=.bool (l.any p)/\Rel W V [] V w':=by
 have key:aB 306 [s.v,.func (.func g) #[] caps.toArray] W λv w'=>(∃i:Int,v=iv i/\(0<=i↔l.any p=true))/\Rel W V [] V w':=by
  have H:=aG hV;have hlen:=hs.len;refine eV Tryz.func306 19 [0,1,4,5,7,8,9,16] ?_;refine wk ?_;refine aP (S:=Nat) al [0,1,7] (λk=>[(8,iv k)]) (λk w'=>k<=l.length/\(l.take k).any p=false/\Rel W V [] V w') (λk _=>l.length-k) 0 ?_;conv=>whnf
  refine⟨sB,⟨aa,ah,H⟩,?_⟩;clear H;rintro k w⟨hk,hz,H⟩;by_cases hlt:k<l.length
  ·obtain⟨hp,hc,hd⟩:=hs.fF (g:=λr:bV=>iv r.1) (g':=λr:bV=>iv r.2) (λ_=>rfl) hlt;refine wk ((hg l[k] (bS hlt) _ H.data).use ?_);rintro v w⟨rfl,K⟩;replace H:=H.call K;conv=>whnf
   refine Au (λh1=>?_) (λh1=>?_)
   ·refine wk ?_;refine⟨⟨k,rfl,λ_=>?_,λ_=>by omega⟩,H⟩;rw[wF];exact⟨l[k],bS hlt,h1⟩
   refine wk ?_;exact⟨sB,k+1,sB,⟨aa,by rw[Gv hlt,hz,h1];rfl,H⟩,aa⟩
  refine wk ?_;refine⟨⟨-1,rfl,λh=>by omega,λh=>?_⟩,H⟩;rw[bJ aa]at hz;rw[hz]at h;cases h
 refine eV Tryz.func264 9 [0,1,4] ?_;conv=>whnf
 refine key.use ?_;rintro v w⟨⟨i,rfl,hi⟩,H⟩;conv=>whnf
 refine⟨?_,H⟩;simp only[hi];cases l.any p<;>rfl
theorem alj(hV:Sub V W)(x:bV):aB 265 [.agg (eX x).toArray] W λv w'=>v=.bool (!decide (x.1=0))/\Rel W V [] V w':=by have H:=aG hV;refine eV Tryz.func265 6 [0,1,2] ?_;refine H.wn ?_;intro w b1 H;refine wk ?_;exact⟨ax ic (by by_cases h:x.1=0<;>simp[h]),H.sx⟩
theorem aaN(e:Nat)(rs:List eA)(h:∀r∈rs,1<=r.2):(decide (e=0)&&!(aX rs).any (λx=>!decide (x.1=0)))=fX e (eZ rs):=by
 unfold fX;congr 1;rw[List.not_any_eq_all_not];unfold aX eZ;rw[List.all_map,List.all_flatMap];rw[Jk,bc,bc];refine forall_congr' λr=>forall_congr' λhr=>?_;obtain⟨k,n⟩:=r;have:=h _ hr;dsimp only at this;obtain⟨m,rfl⟩:∃m,n=m+1:=⟨n-1,aa⟩
 simp[Function.comp,List.replicate_succ];omega
theorem J6(hV:Sub V W)(e:Nat){s:Sl}{rs:List eA}(hs:aA eX V s (aX rs))(hl:rs.length<=1000000)(h:∀r∈rs,1<=r.2):aB 195 [.agg (wO e s).toArray] W λv w'=>v=.bool (fX e (eZ rs))/\Rel W V [] V w':=by
 have H:=aG hV;rw[<-aaN e rs h];have dK:(aX rs).length=rs.length:=by simp[aX]
 refine eV Tryz.func195 12 [0,1,2] ?_;refine H.wn ?_;intro w b1 H;by_cases he:e=0
 ·rw[bw he,Bool.true_and];refine wk ?_;refine H.us (abO (g:=265) (caps:=[]) H.data hs aa (λx=>!decide (x.1=0)) (λx _ w hw=>alj hw x)) ?_;intro w H;refine wk ?_;exact H.sx
 rw[bA he,Bool.false_and];refine wk ?_;exact H.sx
theorem alI{u:Nat}(hu:u<65536):(if big=true then[bO .u8 (wr .u8 ((u:Int)/256)),bO .u8 (wr .u8 (u:Int))]else[bO .u8 (wr .u8 (u:Int)),bO .u8 (wr .u8 ((u:Int)/256))])=(dD big u).flatMap aI:=by
 have e1:wr .u8 ((u:Int)/256)=((u/256:Nat):Int):=by show((u:Int)/256)%256=_;omega
 have e2:wr .u8 (u:Int)=((u%256:Nat):Int):=by show(u:Int)%256=_;omega
 rw[e1,e2];unfold dD;split<;>simp only[bD,eL,aI,bv,bb,aL]<;>rw[dB aa,dB aa]
theorem w8(hV:Sub V W){u:Nat}(hu:u<65536)(big:Bool):aB 208 [iv (u:Int),.bool big] W λv w'=>∃(V':ad) (r:Sl),Sub V V'/\Rel W V [] V' w'/\v=r.v/\aF V' r (dD big u):=by
 have H:=aG hV;have hc:=alI (big:=big) hu;refine eV Tryz.func208 18 [0,1,4,5] ?_;cases big
 ·rw[ae ah]at hc;refine H.wn ?_;intro w b1 H;replace H:=H.cB (c':=(dD false u).flatMap aI) (by rw[sJ];exact hc);obtain⟨V2,hV2,H,hb⟩:=H.cU;refine wk ?_;exact⟨V2,⟨some ⟨b1,0,none⟩,2,2⟩,hV2,H.sx,rfl,⟨rfl,aQ _,hb.cells⟩⟩
 rw[ag rfl]at hc;refine H.wn ?_;intro w b1 H;replace H:=H.cB (c':=(dD true u).flatMap aI) (by rw[sJ];exact hc);obtain⟨V2,hV2,H,hb⟩:=H.cU;refine wk ?_;exact⟨V2,⟨some ⟨b1,0,none⟩,2,2⟩,hV2,H.sx,rfl,⟨rfl,aQ _,hb.cells⟩⟩
structure QD(W V:ad)(o:Option au)(v:aj)(w':ad):Prop where
 ex:∃(V':ad) (r:Sl),Sub V V'/\Rel W V [] V' w'/\(match o with
  | none=>v=.tuple #[r.v,.bool false]
  | some cs=>v=.tuple #[r.v,.bool true]/\aA fC V' r cs)
theorem alK{k:Nat}(hk:k<l.length/2):(gV big l).drop k=j1 big l k::(gV big l).drop (k+1):=by rw[dk (by simp[gV];omega)];congr 1;simp[gV]
theorem X7:x*2^min (gR 10) IntKind.i64.bits=1024*x:=by show x*1024=_;omega
def rE(h:Option Nat):Int:=match h with
 | none => -1
 | some u=>(u:Int)
theorem Zm(hV:Sub V W){s:Sl}{l:ab}(hs:aF V s l)(hl:l.length<=1000000)(amX:l.length%2=0)(big:Bool):aB 191 [s.v,.bool big] W (QD W V (dY (gV big l))):=by
 have H:=aG hV;have hlen:=hs.len;refine eV Tryz.func191 77 [0,1,4,5,6,7,8,9,10,14,31,52,57,70] ?_;refine wk ?_;replace H:=H.br 21 1
 refine aP (S:=Nat×Sl×au×Option Nat) al [0,1] (λq=>[(6,q.2.1.v),(7,iv (rE q.2.2.2)),(8,iv ((2*q.1:Nat):Int))])
  (λq w'=>q.1<=l.length/2/\q.2.2.1.length<=q.1/\dY (gV big l)=(dY (q.2.2.2.toList++(gV big l).drop q.1)).map (q.2.2.1++·)/\(∀u,q.2.2.2=some u->iP u)/\Rel W V [.row q.2.1 21 1 (q.2.2.1.flatMap fC)] V w') (λq _=>l.length/2-q.1) (0,⟨none,0,0⟩,[],none) ?_
 conv=>whnf
 refine⟨sB,⟨aa,aQ _,ah,ah,H⟩,?_⟩;clear H;rintro⟨k,r6,out,h⟩w⟨hk,dF,fx,kK,H⟩;dsimp only at hk dF fx kK H |-;by_cases hlt:k<l.length/2;rotate_left
 ·have eT:(gV big l).drop k=[]:=List.drop_of_length_le (by simp[gV];omega);rw[eT,List.append_nil]at fx;cases h with
  | none =>
   have e:dY (gV big l)=some out:=by rw[fx];simp[dY]
   rw[e];obtain⟨V2,hV2,H,hr⟩:=Rel.aJ H;dsimp only[rE];refine wk ?_;exact⟨V2,r6,hV2,H.sx,rfl,hr⟩
  | some u =>
   have hu:=kK u rfl;have e:dY (gV big l)=none:=by rw[fx];rw[show(some u).toList=[u]from rfl,zH hu [] ah];rfl
   rw[e];unfold iP at hu;dsimp only[rE];refine wk ?_;exact⟨V,r6,aS _,H.sx,rfl⟩
 rw[alK hlt]at fx;obtain⟨X,hX⟩:∃X,X=(gV big l).drop (k+1):=⟨_,rfl⟩
 rw[<-hX]at fx;obtain⟨p0,c0⟩:=hs.aR (g:=bv) (λ_=>rfl) (show 2*k<l.length by omega);obtain⟨p1,c1⟩:=hs.aR (g:=bv) (λ_=>rfl) (show 2*k+1<l.length by omega);have z0:=l[2*k].toNat_lt;have z1:=l[2*k+1].toNat_lt;have lK:=yU z0 z1;have MY:=yU z1 z0;have qk:=Kf big l k;obtain⟨u,hu⟩:∃u,u=j1 big l k:=⟨_,rfl⟩
 have hu2:=hu;unfold j1 at hu2;rw[qU (show 2*k<l.length by omega),qU (show 2*k+1<l.length by omega)]at hu2;rw[<-hu]at fx qk;refine wk ?_;refine dV 6 [] [0,1,2,3,4,5,6,7,8,9,10,11,12,13] H ?_;intro w H;refine wk ?_;rw[sJ];refine wk ?_;rw[lK];cases big
 ·rw[ae ah]at hu2;refine wk ?_;refine dV 8 [] [0,1,2,3,4,5,6,7,8,9,10,11,12,13] H ?_;intro w H;refine wk ?_;rw[sJ];refine wk ?_;rw[MY,<-hu2];refine wk ((qV _ _ _ _).use ?_);rintro v w'⟨rfl,rfl⟩;rw[show decide ((56320:Int)<=((u:Nat):Int)/\((u:Nat):Int)<57344)=decide (hY u)from decide_eq_decide.2 (by unfold hY;omega)];by_cases ph:hY u
  ·rw[bw ph];cases hh:h with
   | none =>rw[hh]at fx;rw[fx,show(none:Option Nat).toList++u::X=u::X from rfl,Kg ph];dsimp only[rE];refine wk ?_;exact⟨V,⟨none,0,0⟩,aS _,H.sx,rfl⟩
   | some g =>
    rw[hh]at fx kK;have hg:=kK g rfl;rw[show(some g).toList++u::X=g::u::X from rfl,Ki hg ph]at fx;dsimp only[rE];unfold hY iP at *;obtain⟨c,hc⟩:∃c,c=65536+1024*(g-55296)+(u-56320):=⟨_,rfl⟩
    rw[<-hc]at fx;refine wk ?_;rw[X7];refine H.wg ?_;intro _ w H;replace H:=H.cB (c':=fC c) (F6 aa aa);refine Rel.bF (f:=fC) (l:=out) (x:=c) rfl (λ_=>rfl) (bc.1 rfl) H (by simp;omega) aa ?_;intro rn w H;refine wk ?_;refine⟨sB,(k+1,rn,out++[c],none),⟨rfl,rfl,ax (λz=>some (iv z)) (by dsimp only;omega),trivial⟩,⟨by dsimp only;omega,by dsimp only;rw[ak,bT];omega,?_,ah,H.sx⟩,by dsimp only;omega⟩;rw[fx,<-hX];exact oy out [c] (dY X)
  rw[bA ph];cases hh:h with
  | some g =>rw[hh]at fx kK;have hg:=kK g rfl;rw[fx,show(some g).toList++u::X=g::u::X from rfl,zH hg (u::X) (λv k e=>by cases e;exact ph)];dsimp only[rE];unfold iP at hg;refine wk ?_;exact⟨V,⟨none,0,0⟩,aS _,H.sx,rfl⟩
  | none =>
   rw[hh]at fx;rw[show(none:Option Nat).toList++u::X=u::X from rfl]at fx;dsimp only[rE];refine wk ((qV _ _ _ _).use ?_);rintro v w'⟨rfl,rfl⟩;rw[show decide ((55296:Int)<=((u:Nat):Int)/\((u:Nat):Int)<56320)=decide (iP u)from decide_eq_decide.2 (by unfold iP;omega)];by_cases uA:iP u
   ·rw[bw uA];refine wk ?_;refine⟨sB,(k+1,r6,out,some u),⟨rfl,rfl,ax (λz=>some (iv z)) (by dsimp only;omega),trivial⟩,⟨by dsimp only;omega,by dsimp only;omega,?_,by intro g hg;cases hg;exact uA,H.sx⟩,by dsimp only;omega⟩;rw[fx,<-hX];rfl
   rw[bA uA];rw[Kh ph uA]at fx;refine H.wg ?_;intro _ w H;replace H:=H.cB (c':=fC u) (F6 aa aa);refine Rel.bF (f:=fC) (l:=out) (x:=u) rfl (λ_=>rfl) (bc.1 rfl) H (by simp;omega) aa ?_;intro rn w H;refine wk ?_;refine⟨sB,(k+1,rn,out++[u],none),⟨rfl,rfl,ax (λz=>some (iv z)) (by dsimp only;omega),trivial⟩,⟨by dsimp only;omega,by dsimp only;rw[ak,bT];omega,?_,ah,H.sx⟩,by dsimp only;omega⟩;rw[fx,<-hX];exact oy out [u] (dY X)
 rw[ag rfl]at hu2;rw[<-hu2];refine wk ((qV _ _ _ _).use ?_);rintro v w'⟨rfl,rfl⟩;rw[show decide ((56320:Int)<=((u:Nat):Int)/\((u:Nat):Int)<57344)=decide (hY u)from decide_eq_decide.2 (by unfold hY;omega)];by_cases ph:hY u
 ·rw[bw ph];cases hh:h with
  | none =>rw[hh]at fx;rw[fx,show(none:Option Nat).toList++u::X=u::X from rfl,Kg ph];dsimp only[rE];refine wk ?_;exact⟨V,⟨none,0,0⟩,aS _,H.sx,rfl⟩
  | some g =>
   rw[hh]at fx kK;have hg:=kK g rfl;rw[show(some g).toList++u::X=g::u::X from rfl,Ki hg ph]at fx;dsimp only[rE];unfold hY iP at *;obtain⟨c,hc⟩:∃c,c=65536+1024*(g-55296)+(u-56320):=⟨_,rfl⟩
   rw[<-hc]at fx;refine wk ?_;rw[X7];refine H.wg ?_;intro _ w H;replace H:=H.cB (c':=fC c) (F6 aa aa);refine Rel.bF (f:=fC) (l:=out) (x:=c) rfl (λ_=>rfl) (bc.1 rfl) H (by simp;omega) aa ?_;intro rn w H;refine wk ?_;refine⟨sB,(k+1,rn,out++[c],none),⟨rfl,rfl,ax (λz=>some (iv z)) (by dsimp only;omega),trivial⟩,⟨by dsimp only;omega,by dsimp only;rw[ak,bT];omega,?_,ah,H.sx⟩,by dsimp only;omega⟩;rw[fx,<-hX];exact oy out [c] (dY X)
 rw[bA ph];cases hh:h with
 | some g =>rw[hh]at fx kK;have hg:=kK g rfl;rw[fx,show(some g).toList++u::X=g::u::X from rfl,zH hg (u::X) (λv k e=>by cases e;exact ph)];dsimp only[rE];unfold iP at hg;refine wk ?_;exact⟨V,⟨none,0,0⟩,aS _,H.sx,rfl⟩
 | none =>
  rw[hh]at fx;rw[show(none:Option Nat).toList++u::X=u::X from rfl]at fx;dsimp only[rE];refine wk ((qV _ _ _ _).use ?_);rintro v w'⟨rfl,rfl⟩;rw[show decide ((55296:Int)<=((u:Nat):Int)/\((u:Nat):Int)<56320)=decide (iP u)from decide_eq_decide.2 (by unfold iP;omega)];by_cases uA:iP u
  ·rw[bw uA];refine wk ?_;refine⟨sB,(k+1,r6,out,some u),⟨rfl,rfl,ax (λz=>some (iv z)) (by dsimp only;omega),trivial⟩,⟨by dsimp only;omega,by dsimp only;omega,?_,by intro g hg;cases hg;exact uA,H.sx⟩,by dsimp only;omega⟩;rw[fx,<-hX];rfl
  rw[bA uA];rw[Kh ph uA]at fx;refine H.wg ?_;intro _ w H;replace H:=H.cB (c':=fC u) (F6 aa aa);refine Rel.bF (f:=fC) (l:=out) (x:=u) rfl (λ_=>rfl) (bc.1 rfl) H (by simp;omega) aa ?_;intro rn w H;refine wk ?_;refine⟨sB,(k+1,rn,out++[u],none),⟨rfl,rfl,ax (λz=>some (iv z)) (by dsimp only;omega),trivial⟩,⟨by dsimp only;omega,by dsimp only;rw[ak,bT];omega,?_,ah,H.sx⟩,by dsimp only;omega⟩;rw[fx,<-hX];exact oy out [u] (dY X)
theorem ag4:∀x:Nat,x<32->cI .or .u8 192 (x:Int)=((192+x:Nat):Int):=by decide +kernel
theorem ag5:∀x:Nat,x<16->cI .or .u8 224 (x:Int)=((224+x:Nat):Int):=by decide +kernel
theorem ag6:∀x:Nat,x<8->cI .or .u8 240 (x:Int)=((240+x:Nat):Int):=by decide +kernel
theorem ag3:∀x:Nat,x<64->cI .or .u8 128 (x:Int)=((128+x:Nat):Int):=by decide +kernel
theorem aaH:∀x:Nat,x<256->cI .and .u8 (x:Int) 63=((x%64:Nat):Int):=by decide +kernel
theorem Bj(n:Nat):cI .or .u8 128 (cI .and .u8 (wr .u8 (n:Int)) 63)=((128+n%64:Nat):Int):=by rw[show wr .u8 (n:Int)=((n%256:Nat):Int)from rfl,aaH _ aa,show n%256%64=n%64 by omega,ag3 _ aa]
theorem Py(n:Nat):(n:Int)/2^min (gR 6) IntKind.i32.bits=((n/64:Nat):Int):=rfl
theorem X6(n:Nat):(n:Int)/2^min (gR 12) IntKind.i32.bits=((n/4096:Nat):Int):=rfl
theorem aj4(n:Nat):(n:Int)/2^min (gR 18) IntKind.i32.bits=((n/262144:Nat):Int):=rfl
theorem nS(h:n<256):wr .u8 (n:Int)=(n:Int):=by show(n:Int)%256=_;omega
section
variable{w0 V0 V w:ad}{own:cx}
theorem aaQ(H:Rel w0 V0 (.row s 5 1 (xs.flatMap aI)::own) V w){c:Nat}(hc:eg c)(h128:¬c<128)(hl:xs.length<=1000000000) :
  aB 263 [s.v,rv c] w λv w'=>∃r:Sl,v=r.v/\Rel w0 V0 (.row r 5 1 ((xs++bR c).flatMap aI)::own) V w':=by
 have hlt:=uN hc;unfold bR;rw[ae h128];obtain⟨z,hz⟩:∃z:Int,z=(c:Int):=⟨_,rfl⟩
 have Lj:wr .u32 z=z:=by show z%4294967296=_;omega
 show tF _ [s.v,bO .i32 (c:Int)].toArray w _;rw[<-hz];refine eV Tryz.func263 78 [0,1,4,5,11,25,50] ?_;refine wk ?_;rw[Lj];by_cases h2:c<2048
 ·rw[ag h2];have k1:cI .or .u8 192 (wr .u8 ((c:Int)/2^min (gR 6) IntKind.i32.bits))=((192+c/64:Nat):Int):=by rw[Py,nS aa,ag4 _ aa]
  refine H.wn ?_;intro w b1 H;subst hz;rw[k1,Bj]at H;replace H:=H.cB (c':=[aD (192+c/64),aD (128+c%64)].flatMap aI) (by simp only[bD,eL,aI,bv,bb,aL,dB (show 192+c/64<256 by omega),dB (show 128+c%64<256 by omega)]);replace H:=H.gh (n:=2) (e:=5) (sz:=1) rfl (by simp[maxLen]);refine wk ?_;refine Rel.eB (s:=s) (x:=⟨some ⟨b1,0,none⟩,2,2⟩) (xs:=xs) (ys:=[aD (192+c/64),aD (128+c%64)]) H (i:=0) rfl (by simp only[aq,aK];omega) ?_;intro r w H;simp only[bH]at H;refine wk ?_;exact⟨r,rfl,H⟩
 rw[ae h2];by_cases h3:c<65536
 ·rw[ag h3];have k1:cI .or .u8 224 (wr .u8 ((c:Int)/2^min (gR 12) IntKind.i32.bits))=((224+c/4096:Nat):Int):=by rw[X6,nS aa,ag5 _ aa]
  unfold eg at hc;by_cases h4:c<55296
  all_goals
   refine H.wn ?_;intro w b1 H;subst hz;rw[k1,Py,Bj,Bj]at H;replace H:=H.cB (c':=[aD (224+c/4096),aD (128+c/64%64),aD (128+c%64)].flatMap aI) (by simp only[bD,eL,aI,bv,bb,aL,dB (show 224+c/4096<256 by omega),dB (show 128+c/64%64<256 by omega),dB (show 128+c%64<256 by omega)]);replace H:=H.gh (n:=3) (e:=5) (sz:=1) rfl (by simp[maxLen]);refine wk ?_;refine Rel.eB (s:=s) (x:=⟨some ⟨b1,0,none⟩,3,3⟩) (xs:=xs) (ys:=[aD (224+c/4096),aD (128+c/64%64),aD (128+c%64)]) H (i:=0) rfl (by simp only[aq,aK];omega) ?_;intro r w H;simp only[bH]at H;refine wk ?_;exact⟨r,rfl,H⟩
 rw[ae h3];have k1:cI .or .u8 240 (wr .u8 ((c:Int)/2^min (gR 18) IntKind.i32.bits))=((240+c/262144:Nat):Int):=by rw[aj4,nS aa,ag6 _ aa]
 refine H.wn ?_;intro w b1 H;subst hz;rw[k1,X6,Py,Bj,Bj,Bj]at H;replace H:=H.cB (c':=[aD (240+c/262144),aD (128+c/4096%64),aD (128+c/64%64),aD (128+c%64)].flatMap aI) (by simp only[bD,eL,aI,bv,bb,aL,dB (show 240+c/262144<256 by omega),dB (show 128+c/4096%64<256 by omega),dB (show 128+c/64%64<256 by omega),dB (show 128+c%64<256 by omega)]);replace H:=H.gh (n:=4) (e:=5) (sz:=1) rfl (by simp[maxLen]);refine wk ?_;refine Rel.eB (s:=s) (x:=⟨some ⟨b1,0,none⟩,4,4⟩) (xs:=xs) (ys:=[aD (240+c/262144),aD (128+c/4096%64),aD (128+c/64%64),aD (128+c%64)]) H (i:=0) rfl (by simp only[aq,aK];omega) ?_;intro r w H;simp only[bH]at H;refine wk ?_;exact⟨r,rfl,H⟩
theorem CK(H:Rel w0 V0 (.row s 5 1 (xs.flatMap aI)::own) V w){c:Nat}(hc:eg c)(hl:xs.length<=1000000000) :
  aB 193 [s.v,rv c] w λv w'=>∃r:Sl,v=r.v/\Rel w0 V0 (.row r 5 1 ((xs++bR c).flatMap aI)::own) V w':=by
 have hlt:=uN hc;have Lj:wr .u32 (c:Int)=(c:Int):=by show(c:Int)%4294967296=_;omega
 refine eV Tryz.func193 16 [0,1,4,7] ?_;refine wk ?_;rw[Lj];by_cases h1:c<128
 ·unfold bR;rw[ag h1];refine H.wn ?_;intro w b1 H;rw[nS (show c<256 by omega)]at H;replace H:=H.cB (c':=[aD c].flatMap aI) (by simp only[bD,eL,aI,bv,bb,aL,dB (show c<256 by omega)]);replace H:=H.gh (n:=1) (e:=5) (sz:=1) rfl (by simp[maxLen]);refine wk ?_;refine Rel.eB (s:=s) (x:=⟨some ⟨b1,0,none⟩,1,1⟩) (xs:=xs) (ys:=[aD c]) H (i:=0) rfl (by simp only[aq,aK];omega) ?_;intro r w H;simp only[bH]at H;refine wk ?_;exact⟨r,rfl,H⟩
 refine wk ((aaQ H hc h1 hl).use ?_);clear H;rintro v w⟨r,rfl,H⟩;refine wk ?_;exact⟨r,rfl,H⟩
end
theorem ZK(a:Nat):(a<128/\ji a=1/\mI a=a)\/(128<=a/\a<192/\ji a=0/\mI a=0)\/(192<=a/\a<224/\ji a=2/\mI a=a-192)\/(224<=a/\a<240/\ji a=3/\mI a=a-224)\/(240<=a/\ji a=4/\mI a=a-240):=by
 unfold ji mI;by_cases h1:a<128
 ·rw[ag h1,ag h1];left;exact⟨h1,rfl,rfl⟩
 rw[ae h1,ae h1];by_cases h2:a<192
 ·rw[ag h2,ag h2];right;left;exact⟨aa,h2,rfl,rfl⟩
 rw[ae h2,ae h2];by_cases h3:a<224
 ·rw[ag h3,ag h3];right;right;left;exact⟨aa,h3,rfl,rfl⟩
 rw[ae h3,ae h3];by_cases h4:a<240
 ·rw[ag h4,ag h4];right;right;right;left;exact⟨aa,h4,rfl,rfl⟩
 rw[ae h4,ae h4];right;right;right;right;exact⟨aa,rfl,rfl⟩
theorem P7(c:Nat):(c<128/\kD c=1)\/(128<=c/\c<2048/\kD c=2)\/(2048<=c/\c<65536/\kD c=3)\/(65536<=c/\kD c=4):=by
 unfold kD;by_cases h1:c<128
 ·rw[ag h1];exact .inl ⟨h1,rfl⟩
 rw[ae h1];by_cases h2:c<2048
 ·rw[ag h2];exact .inr (.inl ⟨aa,h2,rfl⟩)
 rw[ae h2];by_cases h3:c<65536
 ·rw[ag h3];exact .inr (.inr (.inl ⟨aa,h3,rfl⟩))
 rw[ae h3];exact .inr (.inr (.inr ⟨aa,rfl⟩))
theorem akU(h1:il l 1):∀j,j<2->0<j->il l j:=λj hj fe=>by obtain rfl:j=1:=aa;exact h1
theorem akV(h1:il l 1)(h2:il l 2):∀j,j<3->0<j->il l j:=λj hj fe=>by
 obtain rfl|rfl:j=1\/j=2:=aa
 ·exact h1
 exact h2
theorem akW(h1:il l 1)(h2:il l 2)(h3:il l 3):∀j,j<4->0<j->il l j:=λj hj fe=>by
 obtain rfl|rfl|rfl:j=1\/j=2\/j=3:=aa
 ·exact h1
 ·exact h2
 exact h3
theorem Se(hne:l≠[]):Lib.decodeN l.length (at8 l 0) (at8 l 1) (at8 l 2) (at8 l 3)=match nh l with
  | some x=>x
  | none=>(65533,1):=by
 have hl:=List.length_pos_iff.2 hne;have b0:at8 l 0<256:=dm _;have b1:at8 l 1<256:=dm _;have b2:at8 l 2<256:=dm _;have b3:at8 l 3<256:=dm _;unfold nh;rcases ZK (at8 l 0)with⟨h1,hw,hh⟩|⟨h1,h2,hw,hh⟩|⟨h1,h2,hw,hh⟩|⟨h1,h2,hw,hh⟩|⟨h1,hw,hh⟩
 ·have hr:kv l=at8 l 0:=by unfold kv;rw[hw,hh];rfl
  rw[hr,hw];rw[ag ⟨ai,aa,λj hj fe=>by omega,by unfold eg;omega,by unfold kD;rw[ag h1]⟩];unfold Lib.decodeN;rw[ag h1]
 ·rw[hw,ae (λk=>by have:=k.pos;omega)];exact Lib.decodeN_bad _ _ _ _ _ (.inl ⟨h1,aa⟩)
 ·have hr:kv l=64*(at8 l 0-192)+(at8 l 1-128):=by unfold kv;rw[hw,hh];exact Gn _ _
  have hn:=P7 (kv l);rw[hw];unfold Lib.decodeN;rw[ae aa];by_cases hk:CA l (kv l) 2
  ·rw[ag hk];obtain⟨_,k2,k3,k4,k5⟩:=hk;obtain⟨t1,t2⟩:=k3 1 ai ai;rw[ag aa,ag aa];exact Prod.ext (by simp only;omega) rfl
  rw[ae hk];by_cases hc:at8 l 0/32=6/\1<l.length/\at8 l 1/64=2
  ·rw[ag hc];by_cases hc2:at8 l 0%32*64+at8 l 1%64>=128
   ·exact absurd ⟨ai,aa,akU (by unfold il;omega),by unfold eg;omega,aa⟩ hk
   rw[ae hc2]
  rw[ae hc,ae aa,ae aa]
 ·have hr:kv l=64*(64*(at8 l 0-224)+(at8 l 1-128))+(at8 l 2-128):=by unfold kv;rw[hw,hh];exact Gp _ _
  have hn:=P7 (kv l);rw[hw];unfold Lib.decodeN;rw[ae aa,ae aa];by_cases hk:CA l (kv l) 3
  ·rw[ag hk];obtain⟨_,k2,k3,k4,k5⟩:=hk;obtain⟨t1,t2⟩:=k3 1 ai ai;obtain⟨t3,t4⟩:=k3 2 ai ai;unfold eg at k4;rw[ag aa,ag aa];exact Prod.ext (by simp only;omega) rfl
  rw[ae hk];by_cases hc:at8 l 0/16=14/\(1<l.length/\at8 l 1/64=2)/\(2<l.length/\at8 l 2/64=2)
  ·rw[ag hc];by_cases hc2:at8 l 0%16*4096+at8 l 1%64*64+at8 l 2%64>=2048/\(at8 l 0%16*4096+at8 l 1%64*64+at8 l 2%64<55296\/(57344<=at8 l 0%16*4096+at8 l 1%64*64+at8 l 2%64/\at8 l 0%16*4096+at8 l 1%64*64+at8 l 2%64<=1114111))
   ·exact absurd ⟨ai,aa,akV (by unfold il;omega) (by unfold il;omega),by unfold eg;omega,aa⟩ hk
   rw[ae hc2]
  rw[ae hc,ae aa]
 have hr:kv l=64*(64*(64*(at8 l 0-240)+(at8 l 1-128))+(at8 l 2-128))+(at8 l 3-128):=by unfold kv;rw[hw,hh];exact Gq _ _
 have hn:=P7 (kv l);rw[hw];unfold Lib.decodeN;rw[ae aa,ae aa,ae aa];by_cases hk:CA l (kv l) 4
 ·rw[ag hk];obtain⟨_,k2,k3,k4,k5⟩:=hk;obtain⟨t1,t2⟩:=k3 1 ai ai;obtain⟨t3,t4⟩:=k3 2 ai ai;obtain⟨t5,t6⟩:=k3 3 ai ai;unfold eg at k4;rw[ag aa,ag aa];exact Prod.ext (by simp only;omega) rfl
 rw[ae hk];by_cases hc:at8 l 0/8=30/\(1<l.length/\at8 l 1/64=2)/\(2<l.length/\at8 l 2/64=2)/\(3<l.length/\at8 l 3/64=2)
 ·rw[ag hc];by_cases hc2:at8 l 0%8*262144+at8 l 1%64*4096+at8 l 2%64*64+at8 l 3%64>=65536/\(at8 l 0%8*262144+at8 l 1%64*4096+at8 l 2%64*64+at8 l 3%64<55296\/(57344<=at8 l 0%8*262144+at8 l 1%64*4096+at8 l 2%64*64+at8 l 3%64/\at8 l 0%8*262144+at8 l 1%64*4096+at8 l 2%64*64+at8 l 3%64<=1114111))
  ·exact absurd ⟨ai,aa,akW (by unfold il;omega) (by unfold il;omega) (by unfold il;omega),by unfold eg;omega,aa⟩ hk
  rw[ae hc2]
 rw[ae hc]
theorem s6(l:ab)(i:Nat):(l.getD i 0).toNat=at8 l i:=by simp[at8,List.getD_eq_getElem?_getD]
theorem F4:∀(n:Nat) {l:ab},l.length<=n->Lib.validD l=(chars l).isSome
 | 0,l,h=>by have:l=[]:=dt aa;subst this;rfl
 | n+1,l,h=>by
  by_cases hn:l=[]
  ·subst hn;rfl
  rw[Lib.validD_step l hn,Lib.decodeL_N,s6,s6,s6,s6,Se hn,CU hn];cases hc:nh l with
  | none=>simp
  | some x =>
   obtain⟨c,k⟩:=x;obtain⟨q0,q1,q2,_⟩:=xv hc;have hu:=nP c;simp only;have aes:¬(c=65533/\k=1):=λ⟨e1,e2⟩=>by rw[e1]at q1;rw[e2]at q1;revert q1;decide
   rw[ae aes,F4 n (by rw[aU];omega)];cases chars (l.drop k)<;>rfl
theorem Yr(l:ab):(⟨l.toArray⟩:ByteArray).data.toList=l:=ah
theorem Lg{i c:Nat}(h:nh (l.drop i)=some (c,n)):Utf8.decode ⟨l.toArray⟩ i=(c,n):=by
 have hne:l.drop i≠[]:=by intro e;rw[e]at h;obtain⟨_,q1,q2,_⟩:=xv h;have:=nP c;simp at q2;omega
 have key:∀k,((⟨l.toArray⟩:ByteArray).data.toList.getD (i+k) 0).toNat=at8 (l.drop i) k:=λk=>by rw[Yr,s6];simp[at8,List.getElem?_drop]
 have k0:=key 0;rw[ln]at k0;rw[Lib.decode_N,k0,key,key,key,Yr,<-aU,Se hne,h]
end Go.Proofs.YtmoiobegbpkkbaaGreatDoor
