import Derived.Test.YtmoiobegbpkkbaaGreatDoorTAB
import Derived.Scope
import Derived.Laws.RangeString
import Derived.Test.YtmoiobegbpkkbaaGreatDoorChecked
import Derived.Laws.Runes
import Derived.Lib.Strings
import Derived.Lib.Slices
import Derived.Lib.Walk
import Derived.Lib.Bytealg
import Derived.Laws.Cover4
open Array renaming getElem?_eq_some_iff->ku,getElem?_setIfInBounds_ne->OW,length_toList->y9
open Bool renaming true_and->oJ,and_eq_true->eD,not_eq_true->EZ,false_and->qw
open ByteArray renaming mk->jY
open Decidable renaming not_not->pB,byContradiction->E5
open Go.Value renaming int->bO
open Int renaming toNat_natCast->jr
open List renaming range->bZ,getElem?_map->ib,all_eq_true->bc,mem_cons->bP,append_nil->aZ,length_nil->aK,take_append_drop->eW,getElem?_eq_some_iff->dH,drop_take->u4,length_cons->aq,take_of_length_le->bJ,drop_of_length_le->fc,drop_drop->gK,append_assoc->bj,cons_append->bb,nil_append->aL,mem_map->cJ,length_append->ak,length_take->bg,length_drop->aU,take_succ_cons->sy,length->bU,flatMap_cons->bD,mem_flatMap->uY,eq_nil_of_length_eq_zero->dt,getElem?_drop->E2,replicate->eP,pairwise_cons->qv,getElem_mem->bS,mem_of_mem_take->nG,take_succ_eq_append_getElem->bK,take_length->fA,drop_eq_getElem_cons->dk,getElem?_append_left->qx,flatMap_append->cw,flatMap_nil->eL,eraseIdx_sublist->ahV,mem_singleton->cz,length_pos_iff->iC,getElem?_eq_getElem->bz,sizeOf_lt_of_mem->OD,map_cons->fO,sum_cons->qy,drop_zero->lj,eq_nil_or_concat->uZ,filter_cons_of_pos->Jb,filter_cons_of_neg->Jc,head?_cons->gJ,tail_cons->mf,getElem?_append_right->BQ,set_cons_zero->bH,ext_getElem->WW,flatten_append->BR,length_map->aW,map_append->dU,map_nil->lk
open Nat renaming le_refl->aQ,add_comm->sq,add_zero->ln,succ_mul->qB,mul_le_mul_right->kr,pow_add->Xk,mul_comm->lP,lt_of_lt_of_le->BK,zero_add->dR,zero_le->cE,eq_of_mul_eq_mul_right->ahU,add_lt_add_iff_right->ahW,pos_of_ne_zero->OC,pow_le_pow_right->E4,sub_zero->WX,min_eq_left->tB,add_sub_cancel_left->WZ,zero_mod->W0,mul_one->wK
open Option renaming getD_some->oI,map_some->gQ
open Option.some renaming injEq->mR,inj->dT
open UInt8 renaming ofNat->aD,toNat_inj->bL,toNat_lt->dm
namespace Go.Proofs.YtmoiobegbpkkbaaGreatDoor
open Go Go.RowKit
set_option maxRecDepth 100000
set_option maxHeartbeats 8000000
variable{f:FuncId}{fn:Func}{c:Code}{args:Array aj}{w w0 V0 V W:ad}{K:aj->ad->Prop}{n b k i u B ch full:Nat}{live U:au}{r:Option Nat}{own:cx}{P:Program}{a:Act}{cs:List Frame}{e t ty:TypeId}{s x:Sl}{α:Type}{de:TD}{l xs ys X:ab}{df:Bool}
theorem eV{args:aC}{Z:List PanicEntry->ad->Prop}(hf:Tryz.prog.funcs[f]?=some fn)(n:Nat)(live:au)
  (h:jh ⟨Tryz.prog,lB,n,live,none⟩ c (nc 0 args) [] w (LD ⟨Tryz.prog,lB,n,live,none⟩ fn.results.toList K Z)) (hb:fn.body=some c:=by exact rfl) (hname:(fn.name == "runtime.NumGoroutine")=false:=by kernel_rfl) (hn:fn.ntmps=n:=by exact rfl) (ha:args.length<=n:=by simp):cR Tryz.prog f args.toArray w K Z :=
 abf al hf hb hname n hn ha live h
theorem dV(id:Nat){ops:Array Oper}{env:Env}{ds:List Deferred}{w0 V0 V w:ad}{own:cx}{Q:iJ}(xs π:au)(H:Rel w0 V0 own V w)
  (h:∀w1,Rel w0 V0 own V w1->zN ⟨Tryz.prog,lB,n,live,r⟩ ops.toList xs π env w1 (λaO w'=>mO aO live λe'=>Q .normal e' ds w') (λch w'=>Q (.panic ch) [] ds w')) (hok:wo lB ops.toList xs π π=true:=by kernel_rfl) :
  aM ⟨Tryz.prog,lB,n,live,r⟩ (.region id ops true) env ds w Q:=Sr al mixed xs π hok λw1 hd=>h w1 (H.ext hd.ext)
theorem dS{id:Nat}{ops:Array Oper}{env:Env}{ds:List Deferred}{Q:iJ}(X xs ys π:au)(H:Rel w0 V0 own V w)
  (h:∀w1,Rel w0 V0 own V w1->Cv ⟨Tryz.prog,lB,n,live,r⟩ (lF X) ops.toList xs ys π env w1 (λaO w'=>mO aO live λe'=>Q .normal e' ds w') (λch w'=>Q (.panic ch) [] ds w')) (hok:wo lB ops.toList xs ys π=true:=by kernel_rfl) :
  aM ⟨Tryz.prog,lB,n,live,r⟩ (.region id ops true) env ds w Q:=acj al mixed (lF X) (λ_ _ _=>lF.trans) xs ys π hok λw1 hd=>h w1 (H.ext hd.ext)
theorem aeY(b:UInt8):cY ((b.toNat:Nat):Int):=by have:=b.toNat_lt;constructor<;>omega
theorem Ci{b:Frame}{k:List Item} :step P (lone (b.atR a (.code (.scope c)::k)) cs w)=.next (lone (b.atR a (.code c::.inScope c::k)) cs w) :=
 step_lone_go (by simp[stepG,stepG.exec,Frame.atR])
theorem akq{b:Frame}{k:List Item} :step P (lone (b.atR a (.inScope c::k)) cs w)=.next (lone (b.atR a k) cs w) :=
 step_lone_go (by simp[stepG,stepG.exec,Frame.atR])
theorem amq{F:Fence}{Q:Exit->Act->ad->Prop}(h:c.wpIn F n P (Exit.noGoto Q) a w):(Code.scope c).wpIn F n P Q a w:=by
 intro b k cs hro hb hr;have h0:(lone (b.atR a (.code (.scope c)::k)) cs w).fenced P F:=fenced_calm hb hr rfl;obtain⟨e,nf,pJ,hq,harr⟩:=h b (.inScope c::k) cs hro hb hr;cases e with
 | normal=>exact⟨.normal,nf,pJ,hq,.head h0 Ci (StepsIn.trans harr (.one (fenced_calm hb hr rfl) akq))⟩
 | exit id =>
  have hx:exitTo id (.inScope c::k)=exitTo id k:=by simp[exitTo]
  exact⟨.exit id,nf,pJ,hq,λk' hk=>.head h0 Ci (harr.1 k' (by rw[hx];exact hk)),
   λhr' hk=>let⟨k₁,h1,h2⟩:=harr.2 hr' (by rw[hx];exact hk);⟨k₁,h1,.head h0 Ci h2⟩⟩
 | goto l=>exact hq.elim
 | ret=>exact⟨_,nf,pJ,hq,.of_steps (.one h0 Ci) harr⟩
 | panic ch=>exact⟨_,nf,pJ,hq,.of_steps (.one h0 Ci) harr⟩
 | outgrown=>exact⟨_,nf,pJ,hq,.of_steps (.one h0 Ci) harr⟩
theorem Pq{C:Cx}(hT:cg C.P C.T){c:Code}{env:Env}{ds:List Deferred}{w:ad}{Q:iJ}(h:jh C c env ds w λe aO ds' w'=>(match e with
  | .goto _=>False
  | e=>Q e aO ds' w')):aM C (.scope c) env ds w Q:=by
 refine⟨λa hs hn hd=>amq (wpIn_mono ((tT hT h).out a hs hn hd) λe a' w' ⟨h1,aO,h2,h3⟩=>?_)⟩;cases e with
 | goto l=>exact h3.elim
 | _=>exact⟨h1,aO,h2,h3⟩
section
variable{w0 V0 V w:ad}{own:cx}
theorem Rel.newObj(H:Rel w0 V0 own V w)(o:Obj):Rel w0 V0 (.obj w.heap.size o::own) V (w.alloc o) :=
 H.more ((Below.refl _ _).alloc (aQ _) _) (heap_alloc_new w o) λb hb=>by cases hb;exact aQ _
theorem Rel.range{P:Program}{T:List TD}(hT:cg P T){t:TypeId}{d:TD}(hd:T[t]?=some d)(hu:d.under=.string)(H:Rel w0 V0 own V w){s:ByteArray}{k:aj->ad->Prop}
  (hk:∀w' b,Rel w0 V0 (.obj b (.stringIter s 0)::own) V w'->k (.pointer (some ⟨b,0,none⟩)) w'):bE P (Instr.range t (.string s)) w k:=by
 have ht:P.underlying t=some .string:=by obtain⟨d0,q1,q2⟩:=(hT t d hd).under;rw[hu]at q2;cases d0<;>first|(simp_all[eS];done)|(simp only[eS]at q2;split at q2<;>cases q2)
 exact .of (run_range_string w t s ht) (hk _ _ (H.newObj _))
theorem Rel.setObj{o o':Obj}(H:Rel w0 V0 (.obj b o::own) V w):Rel w0 V0 (.obj b o'::own) V { w with heap:=w.heap.setIfInBounds b o' }:=by have hb:w.heap[b]?=some o:=H.laid (.obj b o) ah;have hlt:=(ku.1 hb).1;exact H.put (i:=0) rfl rfl rfl rfl ah (λc hc hn=>by have:b≠c:=λe=>hn (by rw[e];rfl);simp[OW this]) (by simp[aT.laid,hlt]) λc hc=>.inl hc
theorem Rel.next{P:Program}{ty b pos:Nat}{s:ByteArray}(H:Rel w0 V0 (.obj b (.stringIter s pos)::own) V w){k:aj->ad->Prop}
  (h1:pos<s.size->∀w',Rel w0 V0 (.obj b (.stringIter s (pos+(Utf8.decode s pos).2))::own) V w'->k (.tuple #[.bool true,.int .i64 pos,.int .i32 (Utf8.decode s pos).1]) w')
  (h2:¬pos<s.size->k (.tuple #[.bool false]) w):bE P (Instr.next (.pointer (some ⟨b,0,none⟩)) true ty) w k:=by
 have hb:w.heap[b]?=some (.stringIter s pos):=H.laid (.obj b (.stringIter s pos)) ah;by_cases h:pos<s.size
 ·refine .of ?_ (h1 h _ H.setObj);simp[Instr.next,getObj,Go.setObj,Sem.run,hb,h,goInt]
 refine .of ?_ (h2 h);simp[Instr.next,getObj,Sem.run,hb,h]
end
theorem decode_high(s:ByteArray)(pos:Nat)(h:pos<s.size)(ha:128<=(s[pos]'h).toNat):128<=(Utf8.decode s pos).1:=by
 have e:s.get! (pos+0)=s[pos]'h:=by show s.get! pos=_;simp[ByteArray.get!,getElem!_pos,h];rfl
 have ha':¬(s[pos]'h).toNat<128:=aa;simp only[Utf8.decode,e,ha',if_false];split
 ·split
  ·rename_i h1;simpa using h1
  decide
 split
 ·split
  ·rename_i h1;simp at h1;dsimp only;omega
  decide
 split
 ·split
  ·rename_i h1;simp at h1;dsimp only;omega
  decide
 decide
theorem fY.uT(hf:P.funcs[f]?=some fn)(hb:fn.body.isSome=true)(hn:(fn.name == "runtime.NumGoroutine")=false)
  (h:Calls P f args w λe w'=>∃v,e=.returned v/\K v w'):fY P f args w K :=
 ⟨.inl ⟨xG hf hb hn,Calls.nD h λe w' ⟨v,he,hk⟩=>by subst he;exact hk⟩⟩
theorem fY.Ob{e:Array aj->Sem aj}{w':ad}{v:aj}(hf:P.funcs[f]?=some fn)(hname:(fn.name == "runtime.NumGoroutine")=false)
  (hb:fn.body.isNone=true) (hn:Extern.findNext fn=none) (he:Extern.find fn=some e) (hr:(e args).run P w=.ok v w') (hk:K v w'):fY P f args w K :=
 ⟨.inr ⟨v,w',by rw[run_callFunc_extern hf hname hb hn he,hr];rfl,hk⟩⟩
theorem aj5(s:ByteArray)(c:Int)(w:ad) :
  Calls Tryz.prog 324 #[.string s,.int .u8 c] w λe w'=>e=.returned (.int .i64 (Lib.indexByte s.data.toList c.toNat.toUInt8))/\w'=w:=by
 go_enter Tryz.func324,Tryz.ntmps324;go_wp2;rw[run_callFunc_extern Tryz.func331 av av av (e:=Extern.BytealgIndexByte.indexByte) av,Lib.run_indexByteString];simp only[Result.andThen];rw[Oper.upon_value];go_wp2;go_ret;exact⟨rfl,rfl⟩
theorem Bg(s:ab)(c:Int)(w:ad):aB 302 [str s,.int .u8 c] w λv w'=>v=iv (Lib.indexByte s c.toNat.toUInt8)/\w=w':=by
 refine eV Tryz.func302 8 [0,1,4] ?_;conv=>whnf
 refine fY.use (fY.uT (K:=λv w'=>v=iv (Lib.indexByte s c.toNat.toUInt8)/\w=w') Tryz.func324 rfl av (Calls.nD (aj5 _ _ _) λe w' ⟨he,hw⟩=>⟨_,he,rfl,hw.symm⟩)) ?_;rintro v w'⟨rfl,rfl⟩;conv=>whnf
 exact⟨rfl,rfl⟩
theorem indexByte_none{s:ab}{c:UInt8}(h:∀b∈s,b≠c):Lib.indexByte s c = -1:=by
 induction s with
 | nil=>rfl
 | cons b l ih =>have h1:=h b ah;simp only[Lib.indexByte,ih λx hx=>h x (by simp[hx])];simp[h1]
theorem al8(r:Int)(w:ad):aB 356 [.int .i32 r] w λv w'=>v=.bool (Utf8.valid r)/\w=w':=by
 rw[validRune_eq];refine eV Tryz.func356 17 [0,2,3,10] ?_;by_cases h1:0<=r/\r<55296
 ·have e:validRune r=true:=by simp[validRune];omega
  rw[e];(repeat ((conv=>whnf);first|refine And.intro (by first|omega|exact rfl) ?_|refine gj (λ_=>?_) (λh=>False.elim aa)|refine gj (λh=>False.elim aa) (λ_=>?_)));(conv=>whnf);try exact rfl
 by_cases h2:57343<r/\r<=1114111
 ·have e:validRune r=true:=by simp[validRune];omega
  rw[e];by_cases h3:0<=r
  ·(repeat ((conv=>whnf);first|refine And.intro (by first|omega|exact rfl) ?_|refine gj (λ_=>?_) (λh=>False.elim aa)|refine gj (λh=>False.elim aa) (λ_=>?_)));(conv=>whnf);try exact rfl
  omega
 have e:validRune r=false:=by simp[validRune];omega
 rw[e];by_cases h3:0<=r
 ·by_cases h4:57343<r
  ·(repeat ((conv=>whnf);first|refine And.intro (by first|omega|exact rfl) ?_|refine gj (λ_=>?_) (λh=>False.elim aa)|refine gj (λh=>False.elim aa) (λ_=>?_)));(conv=>whnf);try exact⟨by simp;omega,rfl⟩
  (repeat ((conv=>whnf);first|refine And.intro (by first|omega|exact rfl) ?_|refine gj (λ_=>?_) (λh=>False.elim aa)|refine gj (λh=>False.elim aa) (λ_=>?_)));(conv=>whnf);try exact rfl
 (repeat ((conv=>whnf);first|refine And.intro (by first|omega|exact rfl) ?_|refine gj (λ_=>?_) (λh=>False.elim aa)|refine gj (λh=>False.elim aa) (λ_=>?_)));(conv=>whnf);try exact rfl
abbrev marks:ab:=[45,95,46]
theorem ae5(hV:Sub V W)(r:Int)(h0:0<=r)(h1:r<=2147483647):aB 361 [str marks,.int .i32 r] W λv w'=>(∃i:Int,v=iv i/\(0<=i↔r=45\/r=95\/r=46))/\Rel W V [] V w':=by
 have H:=aG hV;by_cases h2:r<128
 ·refine eV Tryz.func361 187 [0,1,4,5,6,7,8,9,10,11,12,13,14,15,16,26,33,43,51,64,98,108,124,139,143,156,160,171,175,176,177,181,183] ?_;refine wk ((Bg marks _ _).use ?_);rintro v w⟨rfl,rfl⟩;refine wk ?_;refine⟨⟨_,rfl,?_⟩,H⟩;rw[show(wr IntKind.u8 r).toNat=r.toNat by show(r%256).toNat=r.toNat;omega];obtain⟨n,rfl⟩:∃n:Nat,r=n:=⟨r.toNat,aa⟩
  simp only[jr];have hn:n<128:=aa;have key:∀n:Fin 128,(0<=Lib.indexByte marks n.val.toUInt8↔n.val=45\/n.val=95\/n.val=46):=ai;have:=key ⟨n,hn⟩;dsimp only at this;rw[this];omega
 by_cases h3:r=65533
 ·subst h3;refine eV Tryz.func361 187 [0,1,4,5,6,7,8,9,10,11,12,13,14,15,16,26,33,43,51,64,98,108,124,139,143,156,160,171,175,176,177,181,183] ?_;refine wk ?_;refine Rel.range al rfl rfl H ?_;intro w b H;refine wk ?_;refine aP al [0,1,7,8,9,10,11,12,13,14,15,16,26,33,43,51,64,98,108,124,139,143,156,160,171,175,183] (λ_:Nat=>[]) (λk w'=>k<=3/\Rel W V [.obj b (.stringIter ⟨marks.toArray⟩ k)] V w') (λk _=>3-k) 0 ?_;conv=>whnf
  refine⟨trivial,⟨aa,H⟩,?_⟩;clear H;rintro k w⟨hk,H⟩;conv=>whnf
  refine Rel.next H (λhlt w H=>?_) (λhlt=>?_)
  ·have hk3:k<3:=hlt;have hd:Utf8.decode ⟨marks.toArray⟩ k=(([45,95,46]:au)[k]'(by simpa using hk3),1):=by have:k=0\/k=1\/k=2:=aa;rcases this with rfl|rfl|rfl<;>rfl
   rw[hd]at H |-;have hne:(([45,95,46]:au)[k]'(by simpa using hk3))<128:=by have:k=0\/k=1\/k=2:=aa;rcases this with rfl|rfl|rfl<;>simp
   generalize (([45,95,46]:au)[k]'(by simpa using hk3))=c at hne;refine wk ?_;exact⟨sB,k+1,trivial,⟨aa,H⟩,aa⟩
  refine wk ?_;exact⟨⟨_,rfl,aa⟩,H.sx⟩
 refine eV Tryz.func361 187 [0,1,4,5,6,7,8,9,10,11,12,13,14,15,16,26,33,43,51,64,98,108,124,139,143,156,160,171,175,176,177,181,183] ?_;refine wk ((al8 r _).use ?_);rintro v w⟨rfl,rfl⟩;conv=>whnf
 cases hv:Utf8.valid r with
 | false =>
  conv=>whnf
  exact⟨⟨_,rfl,aa⟩,H⟩
 | true =>
  obtain⟨e1,e2,e3⟩:=encode_facts r hv aa;obtain⟨es,MB⟩:∃es:ab,Utf8.encode r=⟨es.toArray⟩:=⟨(Utf8.encode r).data.toList,rfl⟩
  rw[MB]at e1 e2;have e1':2<=es.length:=e1;have e2':es.length<=4:=e2;have e3':∃b,es[es.length-1]?=some b/\128<=b.toNat:=by refine⟨es[es.length-1],by simp<;>omega,?_⟩;rw[MB]at e3;exact e3 (show es.length-1<es.length by omega)
  obtain⟨lb,hlb,amZ⟩:=e3';conv=>whnf
  refine Pq al ?_;conv=>whnf
  refine bE.of (run_convert_int_string _ _ _ _ _ av av) ?_;rw[MB];refine wk ?_;have hsz:(jY marks.toArray).size=3:=rfl;have amW:(jY es.toArray).size=es.length:=rfl;refine aP (S:=Unit) al [0,1,5,6,7,8,13,14,15,16,108,124,139,143,156,160,171,175,176,177,181,183] (λ_=>[(9,.int .i64 ((es.length:Int)-1)),(10,.int .i64 0)]) (λ_ w'=>Rel W V [] V w') (λ_ _=>0) () ?_;conv=>whnf
  refine⟨⟨rfl,rfl,trivial⟩,H,?_⟩;clear H;rintro _ w H;by_cases h5:es.length-1<3
  ·refine wk ?_;refine Pq al ?_;conv=>whnf
   obtain⟨mb,MR,am1⟩:∃mb:UInt8,marks[((es.length:Int)-1).toNat]?=some mb/\mb.toNat<128:=by
    have:((es.length:Int)-1).toNat=1\/((es.length:Int)-1).toNat=2:=aa;rcases this with h|h<;>rw[h]
    ·exact⟨95,rfl,ai⟩
    exact⟨46,rfl,ai⟩
   have amY:es[((es.length:Int)-1).toNat]?=some lb:=by rw[show((es.length:Int)-1).toNat=es.length-1 by omega];exact hlb
   have jS:marks.length=3:=rfl;refine dV 6 [] [0,1,2,3,4,5,6] H ?_;intro w H;refine wk ?_;refine dV 7 [] [0,1,2,3,4,5,6,7,8] H ?_;intro w H;refine wk ((Bg _ _ _).use ?_);rintro v w⟨rfl,rfl⟩;rw[indexByte_none];rotate_left
   ·intro b hb e;have jD:=nG (List.mem_of_mem_drop hb);have hlt:b.toNat<128:=by simp only[marks,bP,List.not_mem_nil,or_false]at jD;rcases jD with rfl|rfl|rfl<;>decide
    have:(lb.toNat).toUInt8=lb:=ah;rw[jr,this]at e;subst e;omega
   refine wk ?_;exact⟨⟨_,rfl,aa⟩,H⟩
  refine wk ?_;exact⟨⟨_,rfl,aa⟩,H⟩
def fU(n:Nat):Bool:=decide ((97<=n/\n<=122)\/(48<=n/\n<=57)\/n=45\/n=95\/n=46)
theorem KZ(hV:Sub V W)(r:Int)(h0:0<=r)(h1:r<=2147483647):aB 343 [str marks,.int .i32 r] W λv w'=>v=.bool (decide (r=45\/r=95\/r=46))/\Rel W V [] V w':=by
 refine eV Tryz.func343 9 [0,1,4] ?_;conv=>whnf
 refine(ae5 hV r h0 h1).use ?_;rintro v w⟨⟨i,rfl,hi⟩,H⟩;conv=>whnf
 exact⟨by simp only[hi],H⟩
theorem ags(hV:Sub V W)(r:Nat)(h1:r<=2147483647):aB 342 [.int .i32 r] W λv w'=>v=.bool (!fU r)/\Rel W V [] V w':=by
 have H:=aG hV;refine eV Tryz.func342 22 [0,2] ?_;by_cases g1:97<=r/\r<=122
 ·have e:fU r=true:=by simp[fU];omega
  rw[e];refine wk ?_;exact H
 by_cases g2:48<=r/\r<=57
 ·have e:fU r=true:=by simp[fU];omega
  rw[e];by_cases g3:r<97
  ·refine wk ?_;exact H
  omega
 have e:fU r=decide ((r:Int)=45\/(r:Int)=95\/(r:Int)=46):=by simp only[fU];congr 1;simp only[eq_iff_iff];omega
 rw[e];by_cases g3:r<97
 ·by_cases g4:r<48
  ·refine wk ?_;refine(KZ hV r aa aa).use ?_;rintro v w⟨rfl,H⟩;conv=>whnf
   exact⟨rfl,H⟩
  refine wk ?_;refine(KZ hV r aa aa).use ?_;rintro v w⟨rfl,H⟩;conv=>whnf
  exact⟨rfl,H⟩
 refine wk ?_;refine(KZ hV r aa aa).use ?_;rintro v w⟨rfl,H⟩;conv=>whnf
 exact⟨rfl,H⟩
theorem acd(s:ByteArray)(pos:Nat):(Utf8.decode s pos).1<=2147483647:=by
 have h:∀b:UInt8,b.toNat<256:=λb=>b.toNat_lt;have e0:=h (s.get! (pos+0));have e1:=h (s.get! (pos+1));have e2:=h (s.get! (pos+2));have e3:=h (s.get! (pos+3));unfold Utf8.decode;dsimp only;repeat' split
 all_goals first|(simp only[Utf8.runeError];omega)|(dsimp only;omega)
theorem Gs{g:UInt8->Bool}{s:ab}(hk:k<s.length):(s.take (k+1)).all g=((s.take k).all g&&g s[k]):=by rw[bK hk,List.all_append];simp
theorem ae4(hV:Sub V W)(s:ab):aB 374 [str s,.func (.func 342) #[] #[],.bool true] W λv w'=>(∃i:Int,v=iv i/\(0<=i↔s.all (λb=>fU b.toNat)=false))/\Rel W V [] V w':=by
 have H:=aG hV;have hsz:(jY s.toArray).size=s.length:=rfl;refine eV Tryz.func374 21 [0,1,2,6,7,8,10,11,12,19] ?_;refine wk ?_;refine Rel.range al rfl rfl H ?_;intro w b H;refine wk ?_;refine aP al [0,1,2,10] (λ_:Nat=>[]) (λk w'=>k<=s.length/\(s.take k).all (λb=>fU b.toNat)=true/\Rel W V [.obj b (.stringIter ⟨s.toArray⟩ k)] V w') (λk _=>s.length-k) 0 ?_;conv=>whnf
 refine⟨trivial,⟨aa,ah,H⟩,?_⟩;clear H;rintro k w⟨hk,hall,H⟩;conv=>whnf
 refine Rel.next H (λhlt w H=>?_) (λhlt=>?_)
 ·have hk3:k<s.length:=hlt;have hat:Gs (g:=λb=>fU b.toNat) hk3=Gs (g:=λb=>fU b.toNat) hk3:=rfl;have hcl:=acd ⟨s.toArray⟩ k;have yA:(jY s.toArray)[k]'hlt=s[k]:=rfl;refine wk ((ags H.data _ hcl).use ?_);rintro v w⟨rfl,K⟩;replace H:=H.call K;by_cases ha:(s[k]).toNat<128
  ·rw[decode_ascii _ k hlt ha]at H |-;dsimp only at H |-;rw[yA];cases hok:fU (s[k]).toNat with
   | true =>
    conv=>whnf
    refine⟨rfl,sB,k+1,trivial,⟨aa,?_,H⟩,aa⟩;rw[Gs hk3,hall,hok];rfl
   | false =>refine wk ?_;refine⟨⟨_,rfl,?_⟩,H.sx⟩;refine⟨λ_=>?_,λ_=>by omega⟩;rw[<-EZ,bc];intro h;have:=h s[k] (bS hk3);rw[hok]at this;cases this
  have hh:=decode_high _ k hlt (by rw[yA];omega);have hok:fU (Utf8.decode ⟨s.toArray⟩ k).1=false:=by simp[fU];omega
  rw[hok];refine wk ?_;refine⟨⟨_,rfl,?_⟩,H.sx⟩;refine⟨λ_=>?_,λ_=>by omega⟩;rw[<-EZ,bc];intro h;have:=h s[k] (bS hk3);simp[fU]at this;omega
 refine wk ?_;have gk:k=s.length:=by have:¬k<s.length:=hlt;omega
 rw[gk,fA]at hall;refine⟨⟨_,rfl,?_⟩,H.sx⟩;rw[hall];simp
theorem abP(hV:Sub V W)(s:ab):aB 341 [str s,.func (.func 342) #[] #[]] W λv w'=>v=.bool (!s.all (λb=>fU b.toNat))/\Rel W V [] V w':=by
 refine eV Tryz.func341 9 [0,1,4] ?_;conv=>whnf
 have key:aB 360 [str s,.func (.func 342) #[] #[]] W λv w'=>(∃i:Int,v=iv i/\(0<=i↔s.all (λb=>fU b.toNat)=false))/\Rel W V [] V w':=by
  refine eV Tryz.func360 8 [0,1,4] ?_;conv=>whnf
  refine(ae4 hV s).use ?_;rintro v w⟨⟨i,rfl,hi⟩,H⟩;conv=>whnf
  exact⟨⟨_,rfl,hi⟩,H⟩
 refine key.use ?_;rintro v w⟨⟨i,rfl,hi⟩,H⟩;conv=>whnf
 refine⟨?_,H⟩;cases h:s.all (λb=>fU b.toNat)with
 | true=>simp[h]at hi;simp;omega
 | false=>simp[h]at hi;simp[hi]
def cX(s:ab):Bool:=decide (1<=s.length/\s.length<=32)&&(decide (97<=(s[0]?.getD 0).toNat/\(s[0]?.getD 0).toNat<=122)&&s.all λb=>fU b.toNat)
theorem VI(hV:Sub V W)(s:ab):aB 317 [str s] W λv w'=>v=.bool (cX s)/\Rel W V [] V w':=by
 have H:=aG hV;have hsz:(jY s.toArray).size=s.length:=rfl;refine eV Tryz.func317 23 [0,2,19] ?_;rcases s with _|⟨c,s⟩
 ·refine wk ?_;exact H
 have np:(c::s)[(0:Int).toNat]?=some c:=rfl;by_cases g1:32<(c::s).length
 ·refine wk ?_;refine⟨?_,H⟩;have:¬(c::s).length<=32:=aa;simp only[cX,this,and_false,decide_false,qw]
 have e1:cX (c::s)=(decide (97<=c.toNat/\c.toNat<=122)&&(c::s).all λb=>fU b.toNat):=by
  have:1<=(c::s).length/\(c::s).length<=32:=⟨ah,aa⟩
  simp only[cX,this,and_self,decide_true,oJ];rfl
 rw[e1];by_cases g2:c.toNat<97
 ·refine wk ?_;refine⟨?_,H⟩;simp[show ¬97<=c.toNat by omega]
 by_cases g3:122<c.toNat
 ·refine wk ?_;refine⟨?_,H⟩;simp[show ¬c.toNat<=122 by omega]
 refine wk ((abP hV (c::s)).use ?_);rintro v w⟨rfl,H⟩;conv=>whnf
 refine⟨?_,H⟩;simp[show 97<=c.toNat by omega,show c.toNat<=122 by omega]
theorem gd(n a b:Int)(w:ad):aB 18 [iv n,iv a,iv b] w λv w'=>v=.bool (decide (a<=n/\n<=b))/\w=w':=by
 refine eV Tryz.func18 15 [0,1,2,6] ?_;conv=>whnf
 refine gj (λh=>?_) (λh=>?_)
 ·conv=>whnf
  exact⟨by simp[h],rfl⟩
 conv=>whnf
 exact⟨by simp[h],rfl⟩
theorem NW(w:ad)(s:ab):aB 180 [str s] w λv w'=>v=.bool (cX s)/\w=w':=by
 have hsz:(jY s.toArray).size=s.length:=rfl;refine eV Tryz.func180 46 [0,2,3,4,15,19,45] ?_;conv=>whnf
 refine(gd _ _ _ _).use ?_;rintro v w⟨rfl,rfl⟩;conv=>whnf
 refine qX (λh1=>?_) (λh1=>?_)
 ·conv=>whnf
  refine⟨?_,rfl⟩;have:¬(1<=s.length/\s.length<=32):=aa;simp only[cX,this,decide_false,qw]
 rcases s with _|⟨c,s⟩
 ·have:(jY #[]).size=0:=rfl;omega
 have np:(c::s)[(0:Int).toNat]?=some c:=rfl;have e1:cX (c::s)=(decide (97<=c.toNat/\c.toNat<=122)&&(c::s).all λb=>fU b.toNat):=by have:1<=(c::s).length/\(c::s).length<=32:=aa;simp only[cX,this,and_self,decide_true,oJ];rfl
 rw[e1];have hcl:=c.toNat_lt;(repeat ((conv=>whnf);first|refine And.intro (by first|omega|assumption|exact rfl) ?_|refine Exists.intro _ (And.intro (by assumption) ?_)|refine Exists.intro _ (Exists.intro _ (And.intro (by assumption) ?_))|refine Exists.intro _ (And.intro (dN.cS (by assumption) bX) ?_)));(conv=>whnf);refine(gd _ _ _ _).use ?_;rintro v w⟨rfl,rfl⟩;conv=>whnf
 refine qX (λh2=>?_) (λh2=>?_)
 ·conv=>whnf
  refine⟨?_,rfl⟩;have:¬(97<=c.toNat/\c.toNat<=122):=aa;simp only[this,decide_false,qw]
 have e2:decide (97<=c.toNat/\c.toNat<=122)=true:=by simp;omega
 rw[e2,oJ];generalize c::s=s at *;conv=>whnf
 refine aP (S:=Nat) al [0,15] (λk=>[(3,.int .i64 k)]) (λk w'=>k<=s.length/\(s.take k).all (λb=>fU b.toNat)=true/\w=w') (λk _=>s.length-k) 0 ?_;conv=>whnf
 refine⟨sB,⟨aa,ah,rfl⟩,?_⟩;rintro k w'⟨hk,hall,rfl⟩;conv=>whnf
 refine gj (λh4=>?_) (λh4=>?_);rotate_left
 ·conv=>whnf
  rw[show k=s.length by omega,fA]at hall;exact⟨by rw[hall],rfl⟩
 have hk3:k<s.length:=aa;have yA:s[((k:Nat):Int).toNat]?=some s[k]:=by simp[hk3]
 have hcl':=(s[k]).toNat_lt;have bad:fU (s[k]).toNat=false->s.all (λb=>fU b.toNat)=false:=by intro hb;rw[<-EZ,bc];intro h;have:=h s[k] (bS hk3);rw[hb]at this;cases this
 have good:fU (s[k]).toNat=true->(s.take (k+1)).all (λb=>fU b.toNat)=true:=λhg=>by rw[Gs hk3,hall,hg];rfl
 (repeat ((conv=>whnf);first|refine And.intro (by first|omega|assumption|exact rfl) ?_|refine Exists.intro _ (And.intro (by assumption) ?_)|refine Exists.intro _ (Exists.intro _ (And.intro (by assumption) ?_))|refine Exists.intro _ (And.intro (dN.cS (by assumption) bX) ?_)));(conv=>whnf);refine(gd _ _ _ _).use ?_;rintro v w⟨rfl,rfl⟩;conv=>whnf
 refine qX (λh5=>?_) (λh5=>?_);rotate_left
 ·(repeat ((conv=>whnf);refine And.intro aa ?_));(conv=>whnf);exact⟨rfl,sB,k+1,sB,⟨aa,good (by simp[fU];omega),rfl⟩,aa⟩
 conv=>whnf
 refine(gd _ _ _ _).use ?_;rintro v w⟨rfl,rfl⟩;conv=>whnf
 refine qX (λh6=>?_) (λh6=>?_);rotate_left
 ·(repeat ((conv=>whnf);refine And.intro aa ?_));(conv=>whnf);exact⟨rfl,sB,k+1,sB,⟨aa,good (by simp[fU];omega),rfl⟩,aa⟩
 conv=>whnf
 refine gj (λh7=>?_) (λh7=>?_);rotate_left
 ·(repeat ((conv=>whnf);refine And.intro aa ?_));(conv=>whnf);exact⟨rfl,sB,k+1,sB,⟨aa,good (by simp[fU];omega),rfl⟩,aa⟩
 conv=>whnf
 refine gj (λh8=>?_) (λh8=>?_);rotate_left
 ·(repeat ((conv=>whnf);refine And.intro aa ?_));(conv=>whnf);exact⟨rfl,sB,k+1,sB,⟨aa,good (by simp[fU];omega),rfl⟩,aa⟩
 conv=>whnf
 refine gj (λh9=>?_) (λh9=>?_);rotate_left
 ·(repeat ((conv=>whnf);refine And.intro aa ?_));(conv=>whnf);exact⟨rfl,sB,k+1,sB,⟨aa,good (by simp[fU];omega),rfl⟩,aa⟩
 conv=>whnf
 exact⟨by rw[bad (by simp[fU];omega)],rfl⟩
structure aA{α:Type}(f:α->aC)(V:ad)(s:Sl)(l:List α):Prop where
 len:s.len=l.length
 cap:s.len<=s.cap
 cells:Cells V s.a (l.flatMap f)
section
variable{α:Type}{f:α->aC}{n:Nat}{V V':ad}{s:Sl}{l:List α}
theorem aA.up(h:aA f V s l)(k:Sub V V'):aA f V' s l:=⟨h.len,h.cap,h.cells.tL k⟩
theorem aA.nil(f:α->aC)(V:ad):aA f V ⟨none,0,0⟩ []:=⟨rfl,aQ _,⟨λh=>absurd rfl h,λj v hj=>by simp at hj⟩⟩
theorem kW(hf:∀x,(f x).length=n):∀l:List α,(l.flatMap f).length=l.length*n
 | []=>by simp
 | x::l=>by simp only[bD,ak,hf,kW hf l,aq,qB];omega
theorem S9(hf:∀x,(f x).length=n)(b:Nat):(l.flatMap f).take (b*n)=(l.take b).flatMap f:=by
 induction b generalizing l with
 | zero=>simp
 | succ b ih =>
  cases l with
  | nil=>simp
  | cons x l =>simp only[bD,sy];rw[List.take_append,hf,bJ (by rw[hf,qB];omega),show(b+1)*n-n=b*n by rw[qB];omega,ih]
theorem S4(hf:∀x,(f x).length=n)(b:Nat):(l.flatMap f).drop (b*n)=(l.drop b).flatMap f:=by
 induction b generalizing l with
 | zero=>simp
 | succ b ih =>
  cases l with
  | nil=>simp
  | cons x l =>simp only[bD,List.drop_succ_cons];rw[List.drop_append,hf,fc (by rw[hf,qB];omega),show(b+1)*n-n=b*n by rw[qB];omega,ih];rfl
theorem ac8(hf:∀x,(f x).length=n){i j:Nat}(hi:i<l.length)(hj:j<n):(l.flatMap f)[i*n+j]?=(f l[i])[j]?:=by rw[<-E2,S4 hf,dk hi,bD,qx (by rw[hf];exact hj)]
theorem aA.get(h:aA f V s l)(hf:∀x,(f x).length=n)(hn:0<n){i:Nat}(hi:i<l.length):Plain s.a/\∀j v,(f l[i])[j]?=some v->V.cell? ⟨bW s.a,bM s.a+i*n+j,none⟩=some v:=by
 refine⟨h.cells.1 λe=>?_,λj v hj=>?_⟩
 ·have:=ax bU e;rw[kW hf]at this;have:0<l.length*n:=Nat.mul_pos aa hn;simp_all
 have hjn:j<n:=by have:=(dH.1 hj).1;rwa [hf]at this
 rw[Nat.add_assoc];exact h.cells.2 _ v (by rw[ac8 hf hi hjn];exact hj)
theorem aA.sub(h:aA f V s l)(hf:∀x,(f x).length=n){a b:Nat}(hab:a<=b)(hb:b<=l.length):aA f V ⟨bo s.a a s.cap n,b-a,s.cap-a⟩ ((l.take b).drop a):=by have h1:=h.len;have h2:=h.cap;refine⟨by simp;omega,by dsimp only;omega,?_⟩;have:=h.cells.sub (i:=a) (b:=b) (m:=s.cap) n aa hab;rw[S9 hf,S4 hf]at this;exact this
end
theorem aA.oa{f:α->aC}{l:List α}(h:aA f V s l){g:α->aj}(hf:∀x,f x=[g x]){i:Nat}(hi:i<l.length):Plain s.a/\V.cell? ⟨bW s.a,bM s.a+i,none⟩=some (g l[i]):=by obtain⟨h1,h2⟩:=h.get (n:=1) (λx=>by rw[hf];rfl) aa hi;refine⟨h1,?_⟩;have:=h2 0 (g l[i]) (by rw[hf];rfl);simpa using this
abbrev cO(l:ab):aC:=[str l]
abbrev Gl:=aA cO
structure aam where
 name:ab
 ver:Int
 deriving DecidableEq,Inhabited
abbrev Ks:=Nat->UInt8
structure Z5 where
 name:ab
 ver:Int
 kind:Int
 day:Int
 size:Int
 sum:Ks
 sources:List aam
 groups:bf
 emb:Int
 need:Int
 km:Int
 csize:Int
 amC:Ks
 pieces:List Ks
instance:Inhabited Z5:=⟨⟨[],0,0,0,0,λ_=>0,[],[],0,0,0,0,λ_=>0,[]⟩⟩
theorem aA.abZ{f:α->aC}{l:List α}(h:aA f V s l)(hf:∀x,(f x).length=n){b:Nat}(hb:b<=l.length):aA f V ⟨bo s.a 0 s.cap n,b-0,s.cap-0⟩ (l.take b):=by have:=h.sub hf (cE b) hb;simpa using this
section
variable{w0 V0 V w:ad}{own:cx}
theorem aT.VY{r s:aT}(h:aT.off r s):aT.off s r:=λb hb hc=>h b hc hb
theorem Rel.perm(H:Rel w0 V0 own V w){own':cx}(h:own.Perm own'):Rel w0 V0 own' V w :=
 ⟨H.base,H.sub,H.old,λr hr=>H.laid r (h.mem_iff.2 hr),λr hr=>H.new r (h.mem_iff.2 hr),λr hr=>H.hid r (h.mem_iff.2 hr),(h.pairwise_iff aT.VY).1 H.apart,H.data⟩
theorem Rel.aJ{f:α->aC}{e:Nat}{l:List α}(H:Rel w0 V0 (.row s e n (l.flatMap f)::own) V w)(hf:∀x,(f x).length=n:=by intro _;rfl)(hn:0<n:=by decide):∃V',Sub V V'/\Rel w0 V0 own V' w/\aA f V' s l:=by obtain⟨V',h1,h2,h3,h4,h5⟩:=H.adl;refine⟨V',h1,h2,?_,h4,h3⟩;rw[kW hf]at h5;exact(ahU hn h5).symm
theorem Rel.dW{f:α->aC}{e:Nat}{l:List α}(H:Rel w0 V0 own V w)(hi:own[i]?=some (.row s e n (l.flatMap f)))(hf:∀x,(f x).length=n)(hn:0<n):s.len=l.length:=by have:=(H.rowAt hi).len;rw[kW hf]at this;exact(ahU hn this).symm
def xF(t:TypeId):Option (TypeId×TD) :=
 match lB[t]? with
 | some d=>match d.under with
  | .slice e=>match lB[e]? with
   | some de=>match de.zero with
    | some z=>if z.cells.size=de.size/\0<de.size then some (e,de)else none
    | none=>none
   | none=>none
  | _=>none
 | none=>none
theorem acn(h:xF t=some (e,de)):∃d z,lB[t]?=some d/\d.under=.slice e/\lB[e]?=some de/\de.zero=some z/\z.cells.size=de.size/\0<de.size:=by
 unfold xF at h;split at h
 ·rename_i d h1;split at h
  ·rename_i e' h2;split at h
   ·rename_i de' h3;split at h
    ·rename_i z h4;split at h
     ·rename_i h5;cases h;exact⟨d,z,h1,h2,h3,h4,h5⟩
     cases h
    cases h
   cases h
  cases h
 cases h
theorem Rel.ua(hA:xF t=some (e,de))
  {α:Type} {f:α->aC} {l:List α} {x:α} (hf:∀y,(f y).length=de.size) (h1:∀u∈f x,u.oneCell'=true) {s:Sl} {b:Nat} {t':TypeId} (H:Rel w0 V0 (.ay b (f x) t'::own) V w) {i:Nat} (hi:own[i]?=some (.row s e de.size (l.flatMap f)))
  (hb:(l.length+1)*de.bytes<=140737488355328) (hm:l.length+1<=4611686018427387904)
  {k:aj->ad->Prop} (hk:∀s' w',Rel w0 V0 (own.set i (.row s' e de.size ((l++[x]).flatMap f))) V w'->k s'.v w'):bE Tryz.prog (Builtin.append_ #[t,t] ty #[s.v,.slice (some ⟨b,0,none⟩) 1 1]) w k:=by
 obtain⟨d,z,hd,hu,hde,hz,hzs,hsz⟩:=acn hA;have hx:Cells w (some ⟨b,0,none⟩) (f x):=(H.sV).cells;have hl:=H.pY.dW hi hf hsz;refine Rel.uc (x:=⟨some ⟨b,0,none⟩,1,1⟩) al hd hu hde hz hzs hsz H (i:=i+1) (by simpa using hi) hx (by rw[hf];simp) h1 (by rw[hl];exact hb) (by rw[hl];exact hm) ?_;intro s' w' H' _;refine hk s' w' ?_;rw[cw];simp only[bD,eL,aZ];exact Rel.pY (by simpa using H')
theorem Rel.bF(hA:xF t=some (e,de))
  {α:Type} {f:α->aC} {l:List α} {x:α} (hf:∀y,(f y).length=de.size) (h1:∀u∈f x,u.oneCell'=true) {s:Sl} {b:Nat} {t':TypeId} (H:Rel w0 V0 (.ay b (f x) t'::.row s e de.size (l.flatMap f)::own) V w)
  (hb:(l.length+1)*de.bytes<=140737488355328) (hm:l.length+1<=4611686018427387904)
  {k:aj->ad->Prop} (hk:∀s' w',Rel w0 V0 (.row s' e de.size ((l++[x]).flatMap f)::own) V w'->k s'.v w'):bE Tryz.prog (Builtin.append_ #[t,t] ty #[s.v,.slice (some ⟨b,0,none⟩) 1 1]) w k :=
 Rel.ua hA hf h1 H (i:=0) rfl hb hm hk
theorem Rel.eH{r0:aT}(hA:xF t=some (e,de))
  {α:Type} {f:α->aC} {l:List α} {x:α} (hf:∀y,(f y).length=de.size) (h1:∀u∈f x,u.oneCell'=true) {s:Sl} {b:Nat} {t':TypeId} (H:Rel w0 V0 (.ay b (f x) t'::r0::.row s e de.size (l.flatMap f)::own) V w)
  (hb:(l.length+1)*de.bytes<=140737488355328) (hm:l.length+1<=4611686018427387904)
  {k:aj->ad->Prop} (hk:∀s' w',Rel w0 V0 (r0::.row s' e de.size ((l++[x]).flatMap f)::own) V w'->k s'.v w'):bE Tryz.prog (Builtin.append_ #[t,t] ty #[s.v,.slice (some ⟨b,0,none⟩) 1 1]) w k :=
 Rel.ua hA hf h1 H (i:=1) rfl hb hm hk
theorem Rel.lJ{r0:aT}{r:aT}(H:Rel w0 V0 (r0::r::own) V w):Rel w0 V0 (r::r0::own) V w:=H.perm (List.perm_middle (l₁:=[r0]))
theorem Rel.ub{r0 r1:aT}(hA:xF t=some (e,de))
  {α:Type} {f:α->aC} {l:List α} {x:α} (hf:∀y,(f y).length=de.size) (h1:∀u∈f x,u.oneCell'=true) {s:Sl} {b:Nat} {t':TypeId} (H:Rel w0 V0 (.ay b (f x) t'::r0::r1::.row s e de.size (l.flatMap f)::own) V w)
  (hb:(l.length+1)*de.bytes<=140737488355328) (hm:l.length+1<=4611686018427387904)
  {k:aj->ad->Prop} (hk:∀s' w',Rel w0 V0 (r0::r1::.row s' e de.size ((l++[x]).flatMap f)::own) V w'->k s'.v w'):bE Tryz.prog (Builtin.append_ #[t,t] ty #[s.v,.slice (some ⟨b,0,none⟩) 1 1]) w k :=
 Rel.ua hA hf h1 H (i:=2) rfl hb hm hk
theorem Rel.xk{r0 r1 r2:aT}(hA:xF t=some (e,de))
  {α:Type} {f:α->aC} {l:List α} {x:α} (hf:∀y,(f y).length=de.size) (h1:∀u∈f x,u.oneCell'=true) {s:Sl} {b:Nat} {t':TypeId} (H:Rel w0 V0 (.ay b (f x) t'::r0::r1::r2::.row s e de.size (l.flatMap f)::own) V w)
  (hb:(l.length+1)*de.bytes<=140737488355328) (hm:l.length+1<=4611686018427387904)
  {k:aj->ad->Prop} (hk:∀s' w',Rel w0 V0 (r0::r1::r2::.row s' e de.size ((l++[x]).flatMap f)::own) V w'->k s'.v w'):bE Tryz.prog (Builtin.append_ #[t,t] ty #[s.v,.slice (some ⟨b,0,none⟩) 1 1]) w k :=
 Rel.ua hA hf h1 H (i:=3) rfl hb hm hk
end
section
variable{w0 V0 V w:ad}{own:cx}
theorem Rel.back(H:Rel w0 V0 own V w):Rel w0 V0 own V0 w :=
 ⟨H.base,aS _,λ_ _ h=>h,H.laid,H.new,λr hr b hb c t f hc=>H.hid r hr b hb c t f (H.sub.cS b c t f hc),H.apart,H.sub.trans H.data⟩
theorem Rel.Cd(H:Rel w0 V0 own V w){i:Nat}{r:aT}{b:Nat}(hi:own[i]?=some r)(hr:r.at_=some b){w1:ad}(hs:lF [b] w w1):∃E,Rel E E (own.eraseIdx i) V w1:=by
 have hlt:=(dH.1 hi).1;have Eb:=(dH.1 hi).2;have hmem:r∈own:=List.mem_of_getElem? hi;have hsub:(own.eraseIdx i).Sublist own:=ahV ..;have Hs:=H.sl hsub;have hoth:∀x∈own.eraseIdx i,x.at_≠some b:=by
  intro x hx oq;obtain⟨j,hj⟩:=List.mem_iff_getElem?.1 hx;rw[List.getElem?_eraseIdx]at hj;have hp:=List.pairwise_iff_getElem.1 H.apart;split at hj
  ·rename_i hji;obtain⟨qf,yk⟩:=dH.1 hj;exact hp j i qf hlt hji b (by rw[yk];exact oq) (by rw[Eb];exact hr)
  rename_i hji;obtain⟨qf,yk⟩:=dH.1 hj;exact hp i (j+1) hlt qf aa b (by rw[Eb];exact hr) (by rw[yk];exact oq)
 refine⟨{ w1 with heap:=#[] },⟨rfl,rfl,rfl,ah,λk hk=>by simp at hk⟩,⟨λc a t f hc=>by simp at hc⟩,λc hc=>by simp at hc,λx hx=>?_,λx hx c hc=>by simp,Hs.hid,Hs.apart,⟨λc a t f hc=>?_⟩⟩
 ·have hl:=Hs.laid x hx;refine aT.km hl λc hc=>hs.block c (aT.lt hl hc) ?_;intro kY;rw[cz.1 kY]at hc;exact hoth x hx hc
 have h1:=H.data.cS c a t f hc;rw[hs.block c (ku.1 h1).1]
 ·exact h1
 intro kY;rw[cz.1 kY]at hc;exact H.hid r hmem b hr a t f hc
theorem Rel.FN(H:Rel w0 V0 own V w){i b o:Nat}{c l:aC}{t:TypeId}(hi:own[i]?=some (.ay b c t)){k:ad->Prop}(hk:gS c o l λc'=>∀w',Rel w0 V0 (own.set i (.ay b c' t)) V w'->k w') :
  ∃c t',oR w b c t'/\gS c o l λc'=>∀w',mZ w b c' t' w'->lF [b] w w'/\k w':=by
 refine⟨c,t,(H.sW hi).f,?_⟩;have mono:∀(c:aC) (o:Nat) (l:aC) (k k':aC->Prop),(∀x,k x->k' x)->gS c o l k->gS c o l k':=by
  intro c;induction c with
  | nil=>intro o l k k' h hr;cases o<;>cases l<;>first|exact h _ hr|exact hr.elim
  | cons u c ih =>
   intro o l k k' h hr;cases o with
   | zero =>
    cases l with
    | nil=>exact h _ hr
    | cons v l=>exact ih 0 l _ _ (λx hx=>h _ hx) hr
   | succ o=>cases l<;>exact ih o _ _ _ (λx hx=>h _ hx) hr
 exact mono c o l _ _ (λc' hc' w' hu=>⟨lF.F0 (hu.F0 (H.sW hi)) ah,hc' w' (H.Qb hi (hu.F0 (H.sW hi)))⟩) hk
end
abbrev aI(b:UInt8):aC:=[bv b]
abbrev aF:=aA aI
theorem iu(l:ab):l.flatMap aI=l.map bv:=by induction l<;>simp_all
theorem By.slf(h:By V s l):aF V s l:=⟨h.len,h.cap,by rw[iu];exact h.cells⟩
theorem Rel.cB{c c':aC}(H:Rel w0 V0 (.ay b c t::own) V w)(h:c=c'):Rel w0 V0 (.ay b c' t::own) V w:=h▸H
theorem ng(h:n<256){x:Int}(hx:x=n):[bO .u8 x]=aI (aD n):=by subst hx;simp only[aI,bv,dB h]
theorem Hf:∀u∈l.flatMap aI,u.oneCell'=true:=by intro u hu;obtain⟨x,_,hx⟩:=uY.1 hu;rw[cz.1 hx];rfl
section
variable{w0 V0 V w:ad}{own:cx}
theorem Rel.jO(H:Rel w0 V0 own V w)(hi:own[i]?=some (.row s 5 1 (xs.flatMap aI)))(hx:aF V x ys)(hb:xs.length+ys.length<=1099511627776){ty:TypeId}{k:aj->ad->Prop}
  (hk:∀s' w',Rel w0 V0 (own.set i (.row s' 5 1 ((xs++ys).flatMap aI))) V w'->k s'.v w'):bE Tryz.prog (Builtin.append_ #[22,22] ty #[s.v,x.v]) w k:=by
 have hl:=H.dW hi (λ_=>rfl) ai;have hxl:=hx.len;refine Rel.uc al rfl rfl rfl rfl rfl ai H hi (hx.up H.data).cells (by rw[kW (n:=1) (λ_=>rfl),hxl]) Hf (by rw[hl,hxl];simp;omega) (by rw[hl,hxl];omega) ?_;intro s' w' H' _;refine hk s' w' ?_;rw[cw];exact H'
theorem Rel.eB(H:Rel w0 V0 (.row x 5 1 (ys.flatMap aI)::own) V w)(hi:own[i]?=some (.row s 5 1 (xs.flatMap aI)))(hb:xs.length+ys.length<=1099511627776){ty:TypeId}{k:aj->ad->Prop}
  (hk:∀s' w',Rel w0 V0 (own.set i (.row s' 5 1 ((xs++ys).flatMap aI))) V w'->k s'.v w'):bE Tryz.prog (Builtin.append_ #[22,22] ty #[s.v,x.v]) w k:=by
 have hl:=H.pY.dW hi (λ_=>rfl) ai;have hxl:=H.dW (i:=0) rfl (λ_=>rfl) ai;have hc:=(H.rowAt (i:=0) rfl).cells;refine Rel.uc al rfl rfl rfl rfl rfl ai H (i:=i+1) (by simpa using hi) hc (by rw[kW (n:=1) (λ_=>rfl),hxl]) Hf (by rw[hl,hxl];simp;omega) (by rw[hl,hxl];omega) ?_;intro s' w' H' _;refine hk s' w' ?_;rw[cw];exact Rel.pY (by simpa using H')
end
theorem jW(hV:Sub V W){n:Int}(hn:cY n):aB 196 [iv n] W λv w'=>∃r:Sl,v=r.v/\Rel W V [.row r 5 1 ((az n).flatMap aI)] V w':=by
 have H:=aG hV;have hlen:=dq hn.1 hn.2;have hz:=amy hn;have tn:=Gc hn.1 hn.2;refine eV Tryz.func196 27 [0,2,3,4,13] ?_;refine wk ?_;replace H:=H.br 5 1;refine aP (S:=Nat×Sl×ab) al [0,2] (λk=>[(3,.int .u64 k.1),(4,k.2.1.v)]) (λk w'=>k.1<18446744073709551616/\k.2.2++jb k.1=az n/\Rel W V [.row k.2.1 5 1 (k.2.2.flatMap aI)] V w') (λk _=>k.1) (zz n,⟨none,0,0⟩,[]) ?_;conv=>whnf
 refine⟨⟨ax (λz=>some (bO .u64 z)) hz,rfl,trivial⟩,⟨tn,rfl,H.sx⟩,?_⟩;clear H;rintro⟨u,r,o⟩w⟨hu,ho,H⟩;dsimp only at hu ho H;have dF:=ax bU ho;have hpl:=qq u;simp only[ak]at dF;by_cases h128:u<128
 ·rw[yZ h128]at ho;have hb:(u:Int)%256=(u:Nat):=aa;refine H.wg ?_;intro _ w H;refine Rel.bF (f:=aI) (x:=aD u) rfl (λ_=>rfl) (by simp[Value.oneCell']) (H.cB (ng (n:=u) aa hb)) (by simp;omega) aa ?_;intro rn w H;refine wk ?_;exact⟨rn,rfl,by rw[<-ho];exact H⟩
 rw[EX h128]at ho;have hb:cI .or .u8 ((u:Int)%256) 128=((u%128+128:Nat):Int):=by have:=ag2 (x:=u%256) aa;rw[show((u%256:Nat):Int)=(u:Int)%256 by omega]at this;rw[this];omega
 refine H.wg ?_;intro _ w H;refine Rel.bF (f:=aI) (x:=aD (u%128+128)) rfl (λ_=>rfl) (by simp[Value.oneCell']) (H.cB (ng (n:=u%128+128) aa hb)) (by simp;omega) aa ?_;intro rn w H;refine wk ?_;refine⟨sB,(u/128,rn,o++[aD (u%128+128)]),⟨rfl,rfl,trivial⟩,⟨by dsimp only;omega,by simpa using ho,H.sx⟩,by dsimp only;omega⟩
theorem Aq(hV:Sub V W){x:Sl}{b:ab}(hx:aF V x b)(hl:b.length<=1099511627000):aB 227 [x.v] W λv w'=>∃r:Sl,v=r.v/\Rel W V [.row r 5 1 ((eh b).flatMap aI)] V w':=by have H:=aG hV;have hxl:=hx.len;have hp:=dq (n:=b.length) aa aa;refine eV Tryz.func227 8 [0,2] ?_;refine wk ?_;rw[hxl];refine(jW (n:=b.length) H.data (by constructor<;>omega)).use ?_;rintro v w⟨r,rfl,K⟩;replace H:=H.call K;refine wk ?_;refine Rel.jO H (i:=0) rfl hx aa ?_;intro rn w H;refine wk ?_;exact⟨rn,rfl,H⟩
theorem C3(hV:Sub V W){x:Sl}{b:ab}(hx:aF V x b)(hl:b.length<=1099511627000):aB 31 [x.v] W λv w'=>∃r:Sl,v=r.v/\Rel W V [.row r 5 1 (b.flatMap aI)] V w':=by have H:=aG hV;refine eV Tryz.func31 7 [0,2,3] ?_;refine wk ?_;replace H:=H.br 5 1;refine Rel.jO (s:=⟨none,0,0⟩) (xs:=[]) H (i:=0) rfl hx (by simp;omega) ?_;intro rn w H;refine wk ?_;exact⟨rn,rfl,H⟩
theorem lf(hV:Sub V W){x y:Sl}{a b:ab}(hx:aF V x a)(hy:aF V y b)(hl:a.length+b.length<=1099511627000):aB 76 [x.v,y.v] W λv w'=>∃r:Sl,v=r.v/\Rel W V [.row r 5 1 ((a++b).flatMap aI)] V w':=by have H:=aG hV;refine eV Tryz.func76 9 [0,1,4] ?_;refine wk ?_;refine(C3 H.data hx aa).use ?_;rintro v w⟨r,rfl,K⟩;replace H:=H.call K;refine wk ?_;refine Rel.jO H (i:=0) rfl hy aa ?_;intro rn w H;refine wk ?_;exact⟨rn,rfl,H⟩
theorem CR(hV:Sub V W){x y:Sl}{a b:ab}(hx:aF V x a)(hy:aF V y b):aB 15 [x.v,y.v] W λv w'=>v=.bool (decide (a=b))/\Rel W V [] V w':=by have H:=aG hV;have h1:=hx.len;have h2:=hy.len;have pd:Cells W x.a (a.map bv):=iu a▸(hx.up hV).cells;have hcy:Cells W y.a (b.map bv):=iu b▸(hy.up hV).cells;refine eV Tryz.func15 10 [0,1,4] ?_;refine wk ?_;exact H
def fQ(u:Nat):List Int:=if u<128 then[(u:Int)]else((u%128:Nat):Int)::fQ (u/128)
decreasing_by omega
theorem LW(h:u<128):fQ u=[(u:Int)]:=by rw[fQ,ag h]
theorem LU(h:¬u<128):fQ u=((u%128:Nat):Int)::fQ (u/128):=by rw[fQ,ae h]
theorem LV(u:Nat):0<(fQ u).length:=by rw[fQ];split<;>simp
theorem adv(u:Nat):(jb u).length=(fQ u).length/\∀k,k<(fQ u).length->∃g:Nat,(fQ u)[k]?=some (g:Int)/\g<128/\(jb u)[k]?=some (aD (if k+1<(fQ u).length then g+128 else g)):=by
 induction u using Nat.strongRecOn with
 | ind u ih =>
  by_cases h:u<128
  ·rw[yZ h,LW h];refine⟨rfl,λk hk=>?_⟩;simp at hk;subst hk;exact⟨u,rfl,h,ah⟩
  rw[EX h,LU h];obtain⟨h1,h2⟩:=ih (u/128) aa;have hp:=LV (u/128);refine⟨by simp[h1],λk hk=>?_⟩;cases k with
  | zero=>exact⟨u%128,rfl,aa,by rw[ag (by simp only[aq];omega)];rfl⟩
  | succ k =>simp only[aq,ahW]at hk;obtain⟨g,g1,g2,g3⟩:=h2 k hk;refine⟨g,by simpa using g1,g2,?_⟩;simp only[List.getElem?_cons_succ,aq,ahW];exact g3
abbrev bN(z:Int):aC:=[iv z]
theorem aA.aR{f:α->aC}{l:List α}(h:aA f V s l){g:α->aj}(hf:∀x,f x=[g x]){i:Nat}(hi:i<l.length):Plain s.a/\V.cell? ⟨bW s.a,bM s.a+i,none⟩=some (g l[i]):=by obtain⟨h1,h2⟩:=h.get (n:=1) (λx=>by rw[hf];rfl) aa hi;refine⟨h1,?_⟩;have:=h2 0 (g l[i]) (by rw[hf];rfl);simpa using this
theorem iR(hV:Sub V W){n:Int}(hn:cY n):aB 77 [iv n] W λv w'=>∃r:Sl,v=r.v/\Rel W V [.row r 5 1 ((az n).flatMap aI)] V w':=by
 have H:=aG hV;have hlen:=dq hn.1 hn.2;have tn:=Gc hn.1 hn.2;obtain⟨rD,Uh⟩:=adv (zz n);have th:az n=jb (zz n):=rfl;rw[th]at hlen;refine eV Tryz.func77 62 [0,2,3,4,5,6,8,24,36,43] ?_;by_cases h0:0<=n
 ·have hz:(2*(n%18446744073709551616))%18446744073709551616=(zz n:Nat):=by unfold zz;rw[ag h0];omega
  refine wk ?_;replace H:=H.br 3 1;refine aM.cut 0 (λr:Sl=>[(4,r.v)]) (λr w'=>Rel W V [.row r 3 1 ((fQ (zz n)).flatMap bN)] V w') ?_ ?_
  ·refine aP (S:=Nat×Sl×List Int) al [0,2,5,6,8,36,43] (λk=>[(3,.int .u64 k.1),(4,k.2.1.v)]) (λk w'=>k.1<18446744073709551616/\k.2.2++(if k.2.2≠[]/\k.1=0 then[]else fQ k.1)=fQ (zz n)/\Rel W V [.row k.2.1 3 1 (k.2.2.flatMap bN)] V w') (λk _=>if k.2.2=[]then k.1+1 else k.1) (zz n,⟨none,0,0⟩,[]) ?_;conv=>whnf
   refine⟨⟨ax (λz=>some (bO .u64 z)) hz,rfl,trivial⟩,⟨tn,ah,H.sx⟩,?_⟩;clear H;rintro⟨u,r,G⟩w⟨hu,ho,H⟩;dsimp only at hu ho H;have hrl:=H.dW (i:=0) rfl (λ_=>rfl) ai;have Ng:(u,r,G).snd.fst.len=r.len:=rfl;have dF:=ax bU ho;simp only[ak]at dF;by_cases hd:G≠[]/\u=0
   ·have hG:0<G.length:=iC.2 hd.1;rw[ag hd,aZ]at ho;obtain⟨_,hd⟩:=hd;refine wk ?_;exact⟨r,sB,by rw[<-ho];exact H⟩
   rw[ae hd]at ho dF;have hG:G=[]\/0<u:=by
    by_cases hG:G=[]
    ·exact .inl hG
    exact .inr (OC λh0=>hd ⟨hG,h0⟩)
   clear hd;have HW:=LV u;have hq:((u:Int)/128)%18446744073709551616=((u/128:Nat):Int):=aa;have hnext:(G++[((u%128:Nat):Int)])++(if(G++[((u%128:Nat):Int)])≠[]/\u/128=0 then[]else fQ (u/128))=fQ (zz n):=by
    rw[<-ho];by_cases h128:u<128
    ·rw[ag ⟨ah,aa⟩,LW h128,show u%128=u by omega];simp
    rw[ae aa,LU h128];simp
   have DX:(if(G++[((u%128:Nat):Int)])=[]then u/128+1 else u/128)<(if G=[]then u+1 else u):=by
    rw[ae ah];rcases hG with rfl|hG
    ·simp;omega
    split<;>omega
   rcases hG with rfl|hG
   ·simp only[aK]at hrl dF;have Ng:(u,r,([]:List Int)).snd.fst.len=r.len:=rfl;refine H.wg ?_;intro _ w H;refine Rel.bF (f:=bN) (l:=[]) (x:=((u%128:Nat):Int)) rfl (λ_=>rfl) (by simp[Value.oneCell']) H ah ah ?_;intro rn w H;refine wk ?_;exact⟨sB,(u/128,rn,[((u%128:Nat):Int)]),⟨ax (λz=>some (bO .u64 z)) hq,rfl,trivial⟩,⟨by dsimp only;omega,hnext,H.sx⟩,DX⟩
   by_cases kf:r.len=0
   all_goals
    refine H.wg ?_;intro _ w H;refine Rel.bF (f:=bN) (x:=((u%128:Nat):Int)) rfl (λ_=>rfl) (by simp[Value.oneCell']) H (by simp;omega) aa ?_;intro rn w H;refine wk ?_;exact⟨sB,(u/128,rn,G++[((u%128:Nat):Int)]),⟨ax (λz=>some (bO .u64 z)) hq,rfl,trivial⟩,⟨by dsimp only;omega,hnext,H.sx⟩,DX⟩
  clear H;rintro r w H;obtain⟨V1,hV1,H,hr⟩:=Rel.aJ H;have hrl:=hr.len;replace H:=H.br 5 1;refine wk ?_;refine aP (S:=Nat×Sl) al [0,2,3,4,8,24] (λk=>[(5,k.2.v),(6,iv k.1)]) (λk w'=>k.1<=(fQ (zz n)).length/\Rel W V [.row k.2 5 1 (((jb (zz n)).take k.1).flatMap aI)] V1 w') (λk _=>(fQ (zz n)).length-k.1) (0,⟨none,0,0⟩) ?_;conv=>whnf
  refine⟨sB,⟨aa,H.sx⟩,?_⟩;clear H;rintro⟨k,o⟩w⟨hk,H⟩;dsimp only at hk H;by_cases hlt:k<(fQ (zz n)).length;rotate_left
  ·refine wk ?_;rw[bJ aa]at H;exact⟨o,rfl,H.back⟩
  obtain⟨g,yf,hg2,DS⟩:=Uh k hlt;obtain⟨hp,hc⟩:=hr.aR (g:=iv) (λ_=>rfl) hlt;have MG:(fQ (zz n))[k]=g:=by rw[bz hlt]at yf;exact dT yf
  have hkp:k<(jb (zz n)).length:=aa;have jV:(jb (zz n)).take (k+1)=(jb (zz n)).take k++[aD (if k+1<(fQ (zz n)).length then g+128 else g)]:=by rw[bK hkp];rw[bz hkp]at DS;rw[dT DS]
  rw[MG]at hc;by_cases vS:k+1<(fQ (zz n)).length
  ·rw[ag vS]at jV;have hb:((g:Int)+128)%256=((g+128:Nat):Int):=aa;refine H.wg ?_;intro _ w H;refine Rel.bF (f:=aI) (x:=aD (g+128)) rfl (λ_=>rfl) (by simp[Value.oneCell']) (H.cB (ng (n:=g+128) aa hb)) (by simp;omega) (by simp;omega) ?_;intro rn w H;rw[<-jV]at H;refine wk ?_;exact⟨sB,(k+1,rn),sB,⟨aa,H.sx⟩,aa⟩
  rw[ae vS]at jV;have hb:(g:Int)%256=(g:Nat):=aa;refine H.wg ?_;intro _ w H;refine Rel.bF (f:=aI) (x:=aD g) rfl (λ_=>rfl) (by simp[Value.oneCell']) (H.cB (ng (n:=g) aa hb)) (by simp;omega) (by simp;omega) ?_;intro rn w H;rw[<-jV]at H;refine wk ?_;exact⟨sB,(k+1,rn),sB,⟨aa,H.sx⟩,aa⟩
 have hz:(2*((0-(n+1))%18446744073709551616)%18446744073709551616+1)%18446744073709551616=(zz n:Nat):=by unfold zz;rw[ae h0];omega
 refine wk ?_;replace H:=H.br 3 1;refine aM.cut 0 (λr:Sl=>[(4,r.v)]) (λr w'=>Rel W V [.row r 3 1 ((fQ (zz n)).flatMap bN)] V w') ?_ ?_
 ·refine aP (S:=Nat×Sl×List Int) al [0,2,5,6,8,36,43] (λk=>[(3,.int .u64 k.1),(4,k.2.1.v)]) (λk w'=>k.1<18446744073709551616/\k.2.2++(if k.2.2≠[]/\k.1=0 then[]else fQ k.1)=fQ (zz n)/\Rel W V [.row k.2.1 3 1 (k.2.2.flatMap bN)] V w') (λk _=>if k.2.2=[]then k.1+1 else k.1) (zz n,⟨none,0,0⟩,[]) ?_;conv=>whnf
  refine⟨⟨ax (λz=>some (bO .u64 z)) hz,rfl,trivial⟩,⟨tn,ah,H.sx⟩,?_⟩;clear H;rintro⟨u,r,G⟩w⟨hu,ho,H⟩;dsimp only at hu ho H;have hrl:=H.dW (i:=0) rfl (λ_=>rfl) ai;have Ng:(u,r,G).snd.fst.len=r.len:=rfl;have dF:=ax bU ho;simp only[ak]at dF;by_cases hd:G≠[]/\u=0
  ·have hG:0<G.length:=iC.2 hd.1;rw[ag hd,aZ]at ho;obtain⟨_,hd⟩:=hd;refine wk ?_;exact⟨r,sB,by rw[<-ho];exact H⟩
  rw[ae hd]at ho dF;have hG:G=[]\/0<u:=by
   by_cases hG:G=[]
   ·exact .inl hG
   exact .inr (OC λh0=>hd ⟨hG,h0⟩)
  clear hd;have HW:=LV u;have hq:((u:Int)/128)%18446744073709551616=((u/128:Nat):Int):=aa;have hnext:(G++[((u%128:Nat):Int)])++(if(G++[((u%128:Nat):Int)])≠[]/\u/128=0 then[]else fQ (u/128))=fQ (zz n):=by
   rw[<-ho];by_cases h128:u<128
   ·rw[ag ⟨ah,aa⟩,LW h128,show u%128=u by omega];simp
   rw[ae aa,LU h128];simp
  have DX:(if(G++[((u%128:Nat):Int)])=[]then u/128+1 else u/128)<(if G=[]then u+1 else u):=by
   rw[ae ah];rcases hG with rfl|hG
   ·simp;omega
   split<;>omega
  rcases hG with rfl|hG
  ·simp only[aK]at hrl dF;have Ng:(u,r,([]:List Int)).snd.fst.len=r.len:=rfl;refine H.wg ?_;intro _ w H;refine Rel.bF (f:=bN) (l:=[]) (x:=((u%128:Nat):Int)) rfl (λ_=>rfl) (by simp[Value.oneCell']) H ah ah ?_;intro rn w H;refine wk ?_;exact⟨sB,(u/128,rn,[((u%128:Nat):Int)]),⟨ax (λz=>some (bO .u64 z)) hq,rfl,trivial⟩,⟨by dsimp only;omega,hnext,H.sx⟩,DX⟩
  by_cases kf:r.len=0
  all_goals
   refine H.wg ?_;intro _ w H;refine Rel.bF (f:=bN) (x:=((u%128:Nat):Int)) rfl (λ_=>rfl) (by simp[Value.oneCell']) H (by simp;omega) aa ?_;intro rn w H;refine wk ?_;exact⟨sB,(u/128,rn,G++[((u%128:Nat):Int)]),⟨ax (λz=>some (bO .u64 z)) hq,rfl,trivial⟩,⟨by dsimp only;omega,hnext,H.sx⟩,DX⟩
 clear H;rintro r w H;obtain⟨V1,hV1,H,hr⟩:=Rel.aJ H;have hrl:=hr.len;replace H:=H.br 5 1;refine wk ?_;refine aP (S:=Nat×Sl) al [0,2,3,4,8,24] (λk=>[(5,k.2.v),(6,iv k.1)]) (λk w'=>k.1<=(fQ (zz n)).length/\Rel W V [.row k.2 5 1 (((jb (zz n)).take k.1).flatMap aI)] V1 w') (λk _=>(fQ (zz n)).length-k.1) (0,⟨none,0,0⟩) ?_;conv=>whnf
 refine⟨sB,⟨aa,H.sx⟩,?_⟩;clear H;rintro⟨k,o⟩w⟨hk,H⟩;dsimp only at hk H;by_cases hlt:k<(fQ (zz n)).length;rotate_left
 ·refine wk ?_;rw[bJ aa]at H;exact⟨o,rfl,H.back⟩
 obtain⟨g,yf,hg2,DS⟩:=Uh k hlt;obtain⟨hp,hc⟩:=hr.aR (g:=iv) (λ_=>rfl) hlt;have MG:(fQ (zz n))[k]=g:=by rw[bz hlt]at yf;exact dT yf
 have hkp:k<(jb (zz n)).length:=aa;have jV:(jb (zz n)).take (k+1)=(jb (zz n)).take k++[aD (if k+1<(fQ (zz n)).length then g+128 else g)]:=by rw[bK hkp];rw[bz hkp]at DS;rw[dT DS]
 rw[MG]at hc;by_cases vS:k+1<(fQ (zz n)).length
 ·rw[ag vS]at jV;have hb:((g:Int)+128)%256=((g+128:Nat):Int):=aa;refine H.wg ?_;intro _ w H;refine Rel.bF (f:=aI) (x:=aD (g+128)) rfl (λ_=>rfl) (by simp[Value.oneCell']) (H.cB (ng (n:=g+128) aa hb)) (by simp;omega) (by simp;omega) ?_;intro rn w H;rw[<-jV]at H;refine wk ?_;exact⟨sB,(k+1,rn),sB,⟨aa,H.sx⟩,aa⟩
 rw[ae vS]at jV;have hb:(g:Int)%256=(g:Nat):=aa;refine H.wg ?_;intro _ w H;refine Rel.bF (f:=aI) (x:=aD g) rfl (λ_=>rfl) (by simp[Value.oneCell']) (H.cB (ng (n:=g) aa hb)) (by simp;omega) (by simp;omega) ?_;intro rn w H;rw[<-jV]at H;refine wk ?_;exact⟨sB,(k+1,rn),sB,⟨aa,H.sx⟩,aa⟩
theorem Ov(hV:Sub V W){x:Sl}{b:ab}(hx:aF V x b)(hl:b.length<=1099511626000):aB 78 [x.v] W λv w'=>∃r:Sl,v=r.v/\Rel W V [.row r 5 1 ((eh b).flatMap aI)] V w':=by have H:=aG hV;have hxl:=hx.len;have hp:=dq (n:=b.length) aa aa;refine eV Tryz.func78 8 [0,2] ?_;refine wk ?_;rw[hxl];refine(iR (n:=b.length) H.data (by constructor<;>omega)).use ?_;rintro v w⟨r,rfl,K⟩;replace H:=H.call K;obtain⟨V1,hV1,H,hr⟩:=Rel.aJ H;refine wk ?_;refine(lf H.data hr (hx.up hV1) aa).use ?_;rintro v w⟨rn,rfl,K⟩;replace H:=H.call K;refine wk ?_;exact⟨rn,rfl,H.back⟩
abbrev kV(c i:Int):aj:=.agg #[iv c,iv i]
theorem Gz(hV:Sub V W)(c i:Int):aB 10 [iv c,iv i] W λv w'=>v=kV c i/\Rel W V [] V w':=by have H:=aG hV;refine eV Tryz.func10 8 [0,1,4] ?_;refine H.wg ?_;intro _ _ w H;exact H.sx
def Ho{α:Type}(A:α->aj)(z:α):lE α->aj
 | .ok x q=>.tuple #[A x,iv q,.agg #[iv 0,iv 0]]
 | .bad c i=>.tuple #[A z,iv 0,.agg #[iv c,iv i]]
theorem adr{c:UInt8}{r:ab}(hl:l=c::r)(hs:¬((i=9/\1<c.toNat)\/(0<i/\c.toNat=0)))(hc:¬c.toNat<128){X:QA}
  (h:X=match jQ i l with|.ok u' k=>.ok (u+2^(7*i)*u') (i+k)|e=>e):X=match jQ (i+1) r with|.ok u' k=>.ok (u+c.toNat%128*2^(7*i)+2^(7*(i+1))*u') (i+1+k)|e=>e:=by
 subst hl;rw[h];simp only[jQ,ae hs,ae hc];cases jQ (i+1) r with
 | ok u' k =>
  simp only;congr 1
  ·rw[show 7*(i+1)=7*i+7 by omega,Xk,Nat.mul_add,<-Nat.mul_assoc,lP (c.toNat%128),show(2:Nat)^7=128 from rfl];omega
  omega
 | _=>rfl
theorem Hd(hV:Sub V W)(c i:Int):aB 269 [iv c,iv i] W λv w'=>v=.agg #[iv c,iv i]/\Rel W V [] V w':=by have H:=aG hV;refine eV Tryz.func269 8 [0,1,4] ?_;refine H.wg ?_;intro _ _ w H;exact H.sx
theorem Jy(hV:Sub V W){s:Sl}{l:ab}(hs:aF V s l)(hl:l.length<=1099511627776){p:Nat}(hp:p<=l.length):aB 200 [s.v,iv p] W λv w'=>v=Ho iv 0 (fN l p)/\Rel W V [] V w':=by
 have H:=aG hV;have hlen:=hs.len;refine eV Tryz.func200 76 [0,1,4,5,6,7,8,9,17,19,20,27,49,59] ?_;refine H.wn ?_;intro w b6 H;refine wk ?_;refine aP (S:=Nat×Nat) al [0,1,6,17] (λk=>[(7,.int .u64 k.2),(19,iv k.1)]) (λk w'=>k.1<=9/\p+k.1<=l.length/\k.2<2^(7*k.1)/\(jQ 0 (l.drop p)=match jQ k.1 (l.drop (p+k.1))with|.ok u' m=>.ok (k.2+2^(7*k.1)*u') (k.1+m)|e=>e)/\Rel W V [.ay b6 [iv 0,iv 0] 31] V w') (λk _=>10-k.1) (0,0) ?_;conv=>whnf
 refine⟨sB,⟨aa,aa,ah,by simp;cases jQ 0 (l.drop p)<;>simp,H.sx⟩,?_⟩;clear H;rintro⟨i,u⟩w⟨hi,D2,hu,hg,H⟩;dsimp only at hi D2 hu hg H;by_cases hend:p+i=l.length
 ·have hb:fN l p=.bad 15 p:=by rw[fN,hg,fc aa];rfl
  rw[hb];refine wk ((Hd H.data 15 p).use ?_);rintro v w⟨rfl,K⟩;replace H:=H.call K;simp only[aL]at H;refine H.wg ?_;intro w H;exact H.sx
 have hlt:p+i<l.length:=aa;obtain⟨hpl,hq⟩:=hs.aR (g:=bv) (λ_=>rfl) hlt;have eT:l.drop (p+i)=l[p+i]::l.drop (p+i+1):=dk hlt;have DG:=(l[p+i]).toNat_lt;have D6:V.cell? ⟨bW s.a,bM s.a+((p:Int)+(i:Int)).toNat,none⟩=some (bv l[p+i]):=by rw[show((p:Int)+(i:Int)).toNat=p+i by omega];exact hq
 have hst:7*(i:Int)=((7*i:Nat):Int):=aa;by_cases hsy:(i=9/\1<l[p+i].toNat)\/(0<i/\l[p+i].toNat=0)
 ·have hb:fN l p=.bad 1 p:=by rw[fN,hg,eT,jQ,ag hsy]
  rw[hb];have key:∀ {F:Prop},F->F:=λh=>h;by_cases h9:i=9/\1<l[p+i].toNat
  ·obtain⟨h9a,h9b⟩:=h9;refine wk ((Hd H.data 1 p).use ?_);rintro v w⟨rfl,K⟩;replace H:=H.call K;simp only[aL]at H;refine H.wg ?_;intro w H;exact H.sx
  obtain⟨h0a,h0b⟩:=hsy.resolve_left h9;by_cases yh:i=9
  all_goals
   refine wk ((Hd H.data 1 p).use ?_);rintro v w⟨rfl,K⟩;replace H:=H.call K;simp only[aL]at H;refine H.wg ?_;intro w H;exact H.sx
 have MU:i=9->l[p+i].toNat<=1:=λh=>by
  rcases Nat.lt_or_ge 1 l[p+i].toNat with h1|h1
  ·exact absurd (.inl ⟨h,h1⟩) hsy
  exact h1
 have hn0:0<i->l[p+i].toNat≠0:=λh h1=>hsy (.inr ⟨h,h1⟩);have hpw:2^(7*(i+1))=128*2^(7*i):=by rw[show 7*(i+1)=7*i+7 by omega,Xk,lP]
 have UW:l[p+i].toNat%128*2^(7*i)<18446744073709551616:=by
  by_cases h:i=9
  ·have:=MU h;have h2:l[p+i].toNat%128<=1:=aa;have h3:=kr (2^(7*i)) h2;have h4:2^(7*i)<=2^63:=E4 ai aa;simp only[Nat.reducePow]at h4;omega
  have h2:l[p+i].toNat%128<=127:=aa;have h3:=kr (2^(7*i)) h2;have h4:2^(7*i)<=2^56:=E4 ai aa;simp only[Nat.reducePow]at h4;omega
 have aeN:u<18446744073709551616:=by have h4:2^(7*i)<=2^63:=E4 ai aa;simp only[Nat.reducePow]at h4;omega
 obtain⟨U,hU⟩:∃U,U=u+l[p+i].toNat%128*2^(7*i):=⟨_,rfl⟩
 have lK:cI .or .u64 (((i,u):Nat×Nat).snd:Int) (wr .u64 (wr .u64 (cI .and .u8 (l[p+i].toNat:Int) 127)*2^min (7*(((i,u):Nat×Nat).fst:Int)).toNat IntKind.u64.bits))=(U:Int):=by
  have e1:min (7*(((i,u):Nat×Nat).fst:Int)).toNat IntKind.u64.bits=7*i:=by show min (7*(i:Int)).toNat 64=7*i;omega
  rw[e1,aaG aa,hU,<-wm hu UW aeN];congr 1;have e2:wr .u64 ((l[p+i].toNat%128:Nat):Int)=((l[p+i].toNat%128:Nat):Int):=by simp only[wr];omega
  rw[e2,Qu];have:=F9 UW;rw[<-this];simp
 by_cases hc:l[p+i].toNat<128
 ·have fL:jQ 0 (l.drop p)=.ok U (i+1):=by rw[hg,eT,jQ,ae hsy,ag hc];simp only;rw[hU,Nat.mod_eq_of_lt hc,lP]
  have Dy:U<18446744073709551616:=by simpa using(Ox _ 0 _ _ aa fL).2.2.1
  have hres:fN l p=.ok (sM U) (p+(i+1)):=by rw[fN,fL]
  have hd:(U:Int)/2^min (Int.toNat 1) IntKind.u64.bits=((U/2:Nat):Int):=by show(U:Int)/2=_;omega
  have hz:=alT Dy;have anl:=Zk Dy;rw[hres];by_cases yh:i=9
  ·have h1:=MU yh;have h2:=hn0 aa;refine wk ?_;rw[lK,hd];refine wk ?_;rw[KD Dy];refine H.wg ?_;intro w H;rw[hz];refine⟨?_,H.sx⟩;simp only[Ho];congr 4
  by_cases HX:0<i
  ·have h2:=hn0 HX;refine wk ?_;rw[lK,hd];refine wk ?_;rw[KD Dy];refine H.wg ?_;intro w H;rw[hz];refine⟨?_,H.sx⟩;simp only[Ho];congr 4
  refine wk ?_;rw[lK,hd];refine wk ?_;rw[KD Dy];refine H.wg ?_;intro w H;rw[hz];refine⟨?_,H.sx⟩;simp only[Ho];congr 4
 have yh:¬i=9:=λh=>by have:=MU h;omega
 have hnext:=adr eT hsy hc hg;by_cases HX:0<i
 ·have h2:=hn0 HX;refine wk ?_;refine⟨sB,(i+1,U),⟨ax (λz=>some (bO .u64 z)) lK,rfl,trivial⟩,⟨aa,aa,?_,?_,H.sx⟩,aa⟩
  ·show U<2^(7*(i+1));rw[hpw,hU];have:=kr (2^(7*i)) (show l[p+i].toNat%128<=127 by omega);omega
  show jQ 0 (l.drop p)=match jQ (i+1) (l.drop (p+(i+1)))with|.ok u' m=>.ok (U+2^(7*(i+1))*u') (i+1+m)|e=>e
  rw[hU];exact hnext
 refine wk ?_;refine⟨sB,(i+1,U),⟨ax (λz=>some (bO .u64 z)) lK,rfl,trivial⟩,⟨aa,aa,?_,?_,H.sx⟩,aa⟩
 ·show U<2^(7*(i+1));rw[hpw,hU];have:=kr (2^(7*i)) (show l[p+i].toNat%128<=127 by omega);omega
 show jQ 0 (l.drop p)=match jQ (i+1) (l.drop (p+(i+1)))with|.ok u' m=>.ok (U+2^(7*(i+1))*u') (i+1+m)|e=>e
 rw[hU];exact hnext
structure QC{α β:Type}(A:β->aj)(R:ad->β->α->Prop)(W V:ad)(res:lE α)(v:aj)(w':ad):Prop where
 ex:∃(V':ad) (x:β) (n c i:Int),Sub V V'/\Rel W V [] V' w'/\v=.tuple #[A x,iv n,.agg #[iv c,iv i]]/\(match res with|.bad c' i'=>c=c'/\i=i'/\c'≠0|.ok y q=>c=0/\i=0/\n=q/\R V' x y)
theorem IC{p:Nat}{c i:Int}(h:fN l p=.bad c i):c≠0:=by obtain⟨h,_⟩:=agL h;omega
abbrev at8(l:ab)(i:Nat):Nat:=(l[i]?.getD 0).toNat
theorem qU(h:i<l.length):at8 l i=l[i].toNat:=by simp[at8,h]
section
inductive ao where
 | mk (kind num:Int) (bytes:ab) (names:bf) (parts:List ao)
namespace ao
abbrev kind:ao->Int|.mk k _ _ _ _=>k
abbrev num:ao->Int|.mk _ n _ _ _=>n
abbrev bytes:ao->ab|.mk _ _ b _ _=>b
abbrev names:ao->bf|.mk _ _ _ s _=>s
abbrev parts:ao->List ao|.mk _ _ _ _ p=>p
end ao
instance:Inhabited ao:=⟨.mk 0 0 [] [] []⟩
theorem ao.wA{v p:ao}(h:p∈v.parts):SizeOf.sizeOf p<SizeOf.sizeOf v:=by cases v;have:=OD h;simp only[ao.mk.sizeOf_spec];simp only[ao.parts]at this;omega
def jA(v:ao):Prop:=(v.num≠0/\v.kind≠1)\/(0<v.bytes.length/\v.kind≠2)\/(0<v.names.length/\v.kind≠4)\/(0<v.parts.length/\v.kind<3)\/(v.kind=4/\v.names.length≠v.parts.length)
instance(v:ao):Decidable (jA v):=by unfold jA;infer_instance
def dP(v:ao):Int :=
 if ¬(1<=v.kind/\v.kind<=4)then 5 else if jA v then 6 else if 600<v.parts.length then 14 else if v.names.any (λs=>!cX s)=true then 7 else if ¬v.names.Nodup then 8 else 0
def gy(v:ao)(n d:Nat):Int:=if 600<=n\/10<=d then 2 else dP v
def pre(d:Nat):ao->List (ao×Nat)
 | .mk k n b s ps=>(.mk k n b s ps,d)::(if 10<d then[]else(ps.attach.map λp=>pre (d+1) p.1).take 601).flatten
decreasing_by
 have:=OD p.2
 simp only[ao.mk.sizeOf_spec]
 omega
theorem wB(d:Nat)(v:ao):pre d v=(v,d)::(if 10<d then[]else((v.parts.take 601).flatMap (pre (d+1)))):=by
 cases v with
 | mk k n b s ps =>
  rw[pre];simp only[ao.parts];congr 1;split
  ·rfl
  rw[List.flatMap_def,List.map_take];congr 2;simp
def scan:List (ao×Nat)->Nat->Except (Int×Int) Nat
 | [],n=>.ok n
 | (v,d)::r,n=>if gy v n d≠0 then .error (gy v n d,n)else scan r (n+1)
theorem zq:∀(a b:List (ao×Nat)) (n:Nat),scan (a++b) n=match scan a n with
  | .ok m=>scan b m
  | .error e=>.error e
 | [],b,n=>rfl
 | (v,d)::a,b,n=>by
  simp only[bb,scan];split
  ·rfl
  exact zq a b (n+1)
def gz(d:Nat):ao->Nat->Except (Int×Int) Nat:=λv n=>scan (pre d v) n
def oY(d:Nat)(ps:List ao)(n:Nat):Except (Int×Int) Nat:=scan (ps.flatMap (pre d)) n
theorem abr(d:Nat)(ps:List ao)(p:ao)(n:Nat):oY d (ps++[p]) n=match oY d ps n with
  | .ok m=>gz d p m
  | .error e=>.error e:=by
 unfold oY gz;rw[cw,zq];simp
theorem Bq{v:ao}(h:dP v=0):(1<=v.kind/\v.kind<=4)/\¬jA v/\v.parts.length<=600/\(∀s∈v.names,cX s=true)/\v.names.Nodup:=by
 unfold dP at h;split at h
 ·cases h
 rename_i h1;split at h
 ·cases h
 rename_i h2;split at h
 ·cases h
 rename_i h3;split at h
 ·cases h
 rename_i h4;split at h
 ·cases h
 rename_i h5;refine⟨pB.1 h1,h2,aa,λs hs=>?_,pB.1 h5⟩;simp only[List.any_eq_true,Bool.not_eq_true']at h4;exact E5 λhn=>h4 ⟨s,hs,by simpa using hn⟩
theorem xw(d:Nat)(v:ao)(n:Nat):gz d v n=if gy v n d≠0 then .error (gy v n d,n)else oY (d+1) v.parts (n+1):=by
 unfold gz;rw[wB];simp only[scan];split
 ·rfl
 rename_i h;have h:=pB.1 h;unfold gy at h;split at h
 ·cases h
 rename_i h1;obtain⟨_,_,h2,_⟩:=Bq h;rw[ae aa,bJ aa];rfl
theorem Ce:∀(l:List (ao×Nat)) (n m:Nat),scan l n=.ok m->m=n+l.length/\∀i v d,l[i]?=some (v,d)->gy v (n+i) d=0
 | [],n,m,h=>by simp only[scan]at h;cases h;simp
 | (v,d)::l,n,m,h=>by
  simp only[scan]at h;split at h
  ·cases h
  rename_i h1;obtain⟨h2,h3⟩:=Ce l (n+1) m h;refine⟨by simp;omega,λi v' d' hi=>?_⟩;cases i with
  | zero =>simp at hi;obtain⟨rfl,rfl⟩:=hi;exact pB.1 h1
  | succ i =>simp at hi;have:=h3 i v' d' hi;rwa [show n+(i+1)=n+1+i by omega]
theorem X4(l:List (ao×Nat)):scan (l.take 601) 0=scan l 0:=by
 by_cases hl:l.length<=601
 ·rw[bJ hl]
 conv=>rhs;rw[<-eW 601 l,zq]
 cases h:scan (l.take 601) 0 with
 | error e=>rfl
 | ok m =>
  exfalso;obtain⟨_,h2⟩:=Ce _ _ _ h;have hlen:(l.take 601).length=601:=by simp;omega
  have vH:600<(l.take 601).length:=aa;have:=h2 600 ((l.take 601)[600]).1 ((l.take 601)[600]).2 (by rw[bz vH]);simp[gy]at this
inductive VB(B:Nat):ao->Prop where
 | mk {v:ao}:cY v.kind->cY v.num->v.bytes.length<=B->v.names.length<=B->(∀s∈v.names,s.length<=B)->v.parts.length<=B->(∀p∈v.parts,VB B p)->VB B v
theorem VB.kind{B:Nat}{v:ao}:VB B v->cY v.kind|.mk h _ _ _ _ _ _=>h
theorem VB.num{B:Nat}{v:ao}:VB B v->cY v.num|.mk _ h _ _ _ _ _=>h
theorem VB.bytes{B:Nat}{v:ao}:VB B v->v.bytes.length<=B|.mk _ _ h _ _ _ _=>h
theorem VB.names{B:Nat}{v:ao}:VB B v->v.names.length<=B|.mk _ _ _ h _ _ _=>h
theorem VB.parts{B:Nat}{v:ao}:VB B v->v.parts.length<=B|.mk _ _ _ _ _ h _=>h
theorem VB.part{v:ao}:VB B v->∀p∈v.parts,VB B p|.mk _ _ _ _ _ _ h=>h
def enc:ao->ab
 | .mk k n b s ps=>az k++(if k=1 then az n else if k=2 then eh b else az ps.length++ps.attach.zipIdx.flatMap λp=>(if k=4 then eh (s.getD p.2 [])else[])++enc p.1.1)
decreasing_by
 have:=OD p.1.2
 simp only[ao.mk.sizeOf_spec]
 omega
def mE(k:Int)(s:bf)(ps:List ao):ab:=ps.zipIdx.flatMap λp=>(if k=4 then eh (s.getD p.2 [])else[])++enc p.1
theorem Ay(v:ao):enc v=az v.kind++(if v.kind=1 then az v.num else if v.kind=2 then eh v.bytes else az v.parts.length++mE v.kind v.names v.parts):=by
 cases v with
 | mk k n b s ps =>
  rw[enc];simp only[ao.parts];congr 1;split
  ·rfl
  split
  ·rfl
  congr 1;unfold mE;conv=>rhs;rw[<-List.attach_map_subtype_val ps,List.zipIdx_map,List.flatMap_map]
  rfl
theorem acy(k:Int)(s:bf):mE k s []=[]:=rfl
theorem SC(k:Int)(s:bf)(ps:List ao)(p:ao):mE k s (ps++[p])=mE k s ps++((if k=4 then eh (s.getD ps.length [])else[])++enc p):=by unfold mE;rw[List.zipIdx_append,cw];simp
def rP(v:ao):Nat:=if v.kind=1 then 1+(az v.num).length else if v.kind=2 then 1+(eh v.bytes).length else 1+(az v.parts.length).length+(v.names.map λs=>1+s.length).sum
def oB(v:ao):Nat:=if v.kind=1 then 1+(az v.num).length else if v.kind=2 then(if 4000<v.bytes.length then 4001 else 1+(eh v.bytes).length)else 1+(az v.parts.length).length+(v.names.map λs=>1+s.length).sum
def lS(l:List (ao×Nat)):Nat:=(l.map λp=>rP p.1).sum
def sz(l:List (ao×Nat)):Nat:=(l.map λp=>oB p.1).sum
theorem WM(b:ab):b.length<=(eh b).length:=by simp[eh]
theorem VO(v:ao):oB v=rP v\/(4000<oB v/\4000<rP v):=by
 unfold oB rP;have:=WM v.bytes;split
 ·exact .inl rfl
 split
 ·split
  ·exact .inr ⟨aa,aa⟩
  exact .inl rfl
 exact .inl rfl
theorem Yz:∀(l:List (ao×Nat)),sz l=lS l\/(4000<sz l/\4000<lS l)
 | []=>.inl rfl
 | p::l=>by have h1:=VO p.1;have h2:=Yz l;simp only[sz,lS,fO,qy]at h2 |-;omega
theorem YA(l:List (ao×Nat)):4000<sz l↔4000<lS l:=by have:=Yz l;omega
theorem akB(a b:List (ao×Nat)):lS (a++b)=lS a+lS b:=by simp[lS]
theorem WO{n:Int}(h0:0<=n)(h:n<64):(az n).length=1:=by unfold az zz;rw[ag h0,yZ aa];rfl
theorem EH{s:ab}(h:cX s=true):s.length<=32:=by unfold cX at h;simp at h;omega
theorem ahL{s:ab}(h:cX s=true):(eh s).length=1+s.length:=by have:=EH h;rw[eh,ak,WO aa aa]
theorem abq{d m:Nat}{p:ao}{ps:List ao}(h:oY d (p::ps) n=.ok m):∃k,gz d p n=.ok k/\oY d ps k=.ok m:=by
 unfold oY at h;rw[bD,zq]at h;split at h
 ·rename_i k hk;exact⟨k,hk,h⟩
 cases h
theorem SB{k:Int}{s:bf}:∀(ps:List ao) (i:Nat),(k=4->i+ps.length<=s.length/\∀x∈s,cX x=true) ->
  ((ps.zipIdx i).flatMap λp=>(if k=4 then eh (s.getD p.2 [])else[])++enc p.1).length=(ps.map λp=>(enc p).length).sum+(if k=4 then((s.drop i).take ps.length).map (λx=>1+x.length)else[]).sum
 | [],i,_=>by simp
 | p::ps,i,h=>by
  have ih:=SB ps (i+1) (λhk=>by have:=h hk;simp at this;exact⟨aa,this.2⟩);simp only[List.zipIdx_cons,bD,ak,fO,qy,ih];by_cases hk:k=4
  ·obtain⟨h1,h2⟩:=h hk;simp only[aq]at h1;have hi:i<s.length:=aa;have hn:=h2 _ (bS hi);rw[ag hk,ag hk,ag hk,dk hi];simp only[aq,sy,fO,qy];have:s.getD i []=s[i]:=by simp[List.getD,hi]
   rw[this,ahL hn];omega
  rw[ae hk,ae hk,ae hk];simp
theorem Yy(d:Nat):∀(ps:List ao),lS (ps.flatMap (pre d))=(ps.map λp=>lS (pre d p)).sum
 | []=>rfl
 | p::ps=>by rw[bD,akB,Yy d ps];simp
theorem Ao{d:Nat}:∀ {ps:List ao} {n m:Nat},oY d ps n=.ok m->∀p∈ps,∃a b,gz d p a=.ok b
 | [],_,_,_,p,hp=>by simp at hp
 | q::ps,n,m,h,p,hp=>by
  obtain⟨k,h1,h2⟩:=abq h;rcases bP.1 hp with rfl|hp
  ·exact⟨n,k,h1⟩
  exact Ao h2 p hp
theorem KR{d m:Nat}{v:ao}(h:gz d v n=.ok m):n<600/\d<10/\(1<=v.kind/\v.kind<=4)/\¬jA v/\v.parts.length<=600/\(∀s∈v.names,cX s=true)/\v.names.Nodup/\oY (d+1) v.parts (n+1)=.ok m:=by
 rw[xw]at h;split at h
 ·cases h
 rename_i h0;have h0:=pB.1 h0;unfold gy at h0;split at h0
 ·cases h0
 obtain⟨a,b,c,e,f⟩:=Bq h0;exact⟨aa,aa,a,b,c,e,f,h⟩
theorem SD(v:ao):∀ {d n m:Nat},gz d v n=.ok m->(enc v).length=lS (pre d v):=by
 induction v using(measure (λv:ao=>SizeOf.sizeOf v)).wf.induction with
 | _ v ih =>
  intro d n m h;obtain⟨h1,h2,h3,h4,h5,h6,h7,h8⟩:=KR h;have iN:=WO (n:=v.kind) aa aa;have hp:lS (v.parts.flatMap (pre (d+1)))=(v.parts.map λp=>(enc p).length).sum:=by rw[Yy];congr 1;refine List.map_congr_left λp hp=>?_;obtain⟨a,b,hab⟩:=Ao h8 p hp;exact(ih p (ao.wA hp) hab).symm
  have hpre:lS (pre d v)=rP v+lS (v.parts.flatMap (pre (d+1))):=by rw[wB,ae aa,bJ aa];simp[lS]
  rw[hpre,hp,Ay];unfold jA at h4;simp only[ak,iN,rP];by_cases k1:v.kind=1
  ·have:v.parts=[]:=dt aa;rw[ag k1,ag k1,this];simp
  rw[ae k1,ae k1];by_cases k2:v.kind=2
  ·have:v.parts=[]:=dt aa;rw[ag k2,ag k2,this];simp
  rw[ae k2,ae k2,ak];have he:=SB (k:=v.kind) (s:=v.names) v.parts 0 (λhk=>⟨aa,h6⟩);rw[mE,he];by_cases k4:v.kind=4
  ·rw[ag k4];have:(v.names.drop 0).take v.parts.length=v.names:=by rw[lj,bJ aa]
   rw[this];omega
  rw[ae k4];have:v.names=[]:=dt aa;rw[this];simp;omega
def ct(v:ao):Int×Int:=match gz 0 v 0 with
 | .error e=>e
 | .ok _=>if 4000<(enc v).length then(14, -1)else(0,0)
structure VH where
 k:Int
 n:Int
 bs:Sl
 ss:Sl
 pl:Sl
abbrev a8(h:VH):aC:=[iv h.k,iv h.n,h.bs.v,h.ss.v,h.pl.v]
abbrev gw(h:VH):aj:=.agg (a8 h).toArray
inductive cb(V:ad):VH->ao->Prop where
 | mk {h:VH} {v:ao} (hs:List VH):h.k=v.kind->h.n=v.num->aF V h.bs v.bytes->aA cO V h.ss v.names->aA a8 V h.pl hs->hs.length=v.parts.length ->
   (∀(i:Nat) x p,hs[i]?=some x->v.parts[i]?=some p->cb V x p)->cb V h v
section
variable{V V':ad}{h:VH}{v:ao}
theorem cb.kind:cb V h v->h.k=v.kind|.mk _ a _ _ _ _ _ _=>a
theorem cb.num:cb V h v->h.n=v.num|.mk _ _ a _ _ _ _ _=>a
theorem cb.bytes:cb V h v->aF V h.bs v.bytes|.mk _ _ _ a _ _ _ _=>a
theorem cb.names:cb V h v->aA cO V h.ss v.names|.mk _ _ _ _ a _ _ _=>a
theorem cb.parts:cb V h v->∃hs:List VH,aA a8 V h.pl hs/\hs.length=v.parts.length/\∀(i:Nat) x p,hs[i]?=some x->v.parts[i]?=some p->cb V x p|.mk hs _ _ _ _ a b c=>⟨hs,a,b,c⟩
theorem cb.up(k:Sub V V')(a:cb V h v):cb V' h v:=by
 induction a with
 | mk hs a b c d e f _ ih=>exact .mk hs a b (c.up k) (d.up k) (e.up k) f ih
theorem cb.uW(a:cb V h v):h.pl.len=v.parts.length:=by obtain⟨hs,a,b,_⟩:=a.parts;rw[a.len,b]
theorem cb.part(a:cb V h v){i:Nat}(hi:i<v.parts.length):Plain h.pl.a/\∃x,cb V x v.parts[i]/\∀j u,(a8 x)[j]?=some u->V.cell? ⟨bW h.pl.a,bM h.pl.a+i*5+j,none⟩=some u:=by obtain⟨hs,a,b,c⟩:=a.parts;have qe:i<hs.length:=aa;obtain⟨g1,g2⟩:=a.get (n:=5) (λ_=>rfl) aa qe;exact⟨g1,hs[i],c i _ _ (bz qe) (bz hi),g2⟩
theorem cb.wu(a:cb V h v){i:Nat}(hi:i<v.parts.length):Plain h.pl.a/\∃x,cb V x v.parts[i]/\V.cell? ⟨bW h.pl.a,bM h.pl.a+i*5,none⟩=some (iv x.k)/\V.cell? ⟨bW h.pl.a,bM h.pl.a+i*5+1,none⟩=some (iv x.n)/\V.cell? ⟨bW h.pl.a,bM h.pl.a+i*5+2,none⟩=some x.bs.v /\
  V.cell? ⟨bW h.pl.a,bM h.pl.a+i*5+3,none⟩=some x.ss.v/\V.cell? ⟨bW h.pl.a,bM h.pl.a+i*5+4,none⟩=some x.pl.v:=by
 obtain⟨g,x,hx,hc⟩:=a.part hi;exact⟨g,x,hx,hc 0 _ rfl,hc 1 _ rfl,hc 2 _ rfl,hc 3 _ rfl,hc 4 _ rfl⟩
end
theorem VB.mono{B':Nat}(hB:B<=B'){v:ao}(h:VB B v):VB B' v:=by
 induction h with
 | mk a b c d e f _ ih=>exact .mk a b aa aa (λs hs=>Nat.le_trans (e s hs) hB) aa ih
end
abbrev cu:=UInt8×ab
def dJ(l:ab):Nat:=256*at8 l 1+at8 l 2
def Ap:Nat->ab->Option (List cu)
 | 0,_=>none
 | n+1,l=>if l.length=1/\at8 l 0=0 then some []else if l.length<3\/at8 l 0<65\/90<at8 l 0 then none
  else if l.length-3<dJ l then none else(Ap n (l.drop (3+dJ l))).map ((l[0]?.getD 0,(l.drop 3).take (dJ l))::·)
def gM(l:ab):Option (List cu):=Ap (l.length+1) l
theorem Rm:∀(n m:Nat) (l:ab),l.length<n->l.length<m->Ap n l=Ap m l
 | 0,_,l,h,_=>by omega
 | _+1,0,l,_,h=>by omega
 | n+1,m+1,l,h1,h2=>by
  simp only[Ap];split
  ·rfl
  split
  ·rfl
  split
  ·rfl
  rename_i h3 h4;have:(l.drop (3+dJ l)).length<l.length:=by simp;omega
  rw[Rm n m _ aa aa]
theorem xx(l:ab):gM l=if l.length=1/\at8 l 0=0 then some []else if l.length<3\/at8 l 0<65\/90<at8 l 0 then none
  else if l.length-3<dJ l then none else(gM (l.drop (3+dJ l))).map ((l[0]?.getD 0,(l.drop 3).take (dJ l))::·):=by
 unfold gM;rw[Ap];split
 ·rfl
 split
 ·rfl
 split
 ·rfl
 rename_i h3 h4;rw[Rm l.length ((l.drop (3+dJ l)).length+1) _ (by simp;omega) aa]
theorem GL:gM []=none:=by rw[xx];simp
def rX(c:cu):ab:=c.1::aD (c.2.length/256)::aD (c.2.length%256)::c.2
def CW(c:cu):Prop:=65<=c.1.toNat/\c.1.toNat<=90/\c.2.length<=65535
theorem WN(c:cu):(rX c).length=3+c.2.length:=by simp[rX];omega
theorem CX:∀(n:Nat) (b:ab) (l:List cu),b.length<=n->gM b=some l->b=l.flatMap rX++[0]/\∀c∈l,CW c
 | 0,b,l,hb,h=>by have:b=[]:=dt aa;subst this;rw[GL]at h;cases h
 | n+1,b,l,hb,h=>by
  rw[xx]at h;split at h
  ·rename_i h1;cases h;obtain⟨x,rfl⟩:∃x,b=[x]:=by
    match b,h1.1 with
    | [x],_=>exact⟨x,rfl⟩
   refine⟨?_,ah⟩;have:=h1.2;simp only[at8,List.getElem?_cons_zero,oI]at this;have:x=0:=bL.1 this;rw[this];rfl
  split at h
  ·cases h
  split at h
  ·cases h
  rename_i h1 h2 h3;cases hr:gM (b.drop (3+dJ b))with
  | none=>rw[hr]at h;cases h
  | some l' =>
   rw[hr]at h;simp only[gQ,mR]at h;subst h;obtain⟨a1,a2⟩:=CX n _ l' (by simp;omega) hr;have hlen:((b.drop 3).take (dJ b)).length=dJ b:=by simp;omega
   have hlt:dJ b<=65535:=by have p1:=(b[1]?.getD 0).toNat_lt;have p2:=(b[2]?.getD 0).toNat_lt;unfold dJ at8;omega
   refine⟨?_,λc hc=>?_⟩
   ·match b,h2 with
    | [],h2=>simp at h2
    | [_],h2=>simp at h2
    | [_,_],h2=>simp at h2
    | x::y::z::r,h2 =>
     simp only[bD,rX,hlen,bb,bj];rw[<-a1];have p1:=y.toNat_lt;have p2:=z.toNat_lt;have q0:dJ (x::y::z::r)=256*y.toNat+z.toNat:=rfl;have q1:aD (dJ (x::y::z::r)/256)=y:=by apply bL.1;rw[q0,dB aa];omega
     have q2:aD (dJ (x::y::z::r)%256)=z:=by apply bL.1;rw[q0,dB aa];omega
     rw[q1,q2];have q3:(x::y::z::r).drop (3+dJ (x::y::z::r))=r.drop (dJ (x::y::z::r)):=by rw[<-gK];rfl
     rw[q3];simp
   rcases bP.1 hc with rfl|hc
   ·refine⟨?_,?_,by rw[hlen];exact hlt⟩
    ·show 65<=at8 b 0;omega
    show at8 b 0<=90;omega
   exact a2 c hc
def kQ(l:ab):Option (List cu):=if l.take 4=[83,78,68,49]then gM (l.drop 4)else none
def cK(wide:Bool)(l:ab):au:=if wide=true then(bZ (l.length/2)).map (λk=>at8 l (2*k)+256*at8 l (2*k+1))else(bZ l.length).map (at8 l)
theorem sA(wide:Bool)(l:ab):(cK wide l).length=if wide=true then l.length/2 else l.length:=by unfold cK;split<;>simp
theorem B2(h:k<l.length/2):(cK true l)[k]?=some (at8 l (2*k)+256*at8 l (2*k+1)):=by simp[cK,h]
theorem B1(h:k<l.length):(cK false l)[k]?=some (at8 l k):=by simp[cK,h]
def dh(df:Bool)(ch full:Nat)(l:au):au:=l.foldl (λacc r=>acc++[if df=true/\ch<=acc.length then(r+acc[acc.length-ch]?.getD 0)%full else r]) []
theorem alC(df:Bool)(ch full:Nat):dh df ch full []=[]:=rfl
theorem Kd(df:Bool)(ch full:Nat)(l:au)(r:Nat):dh df ch full (l++[r])=dh df ch full l++[if df=true/\ch<=(dh df ch full l).length then(r+(dh df ch full l)[(dh df ch full l).length-ch]?.getD 0)%full else r]:=by unfold dh;rw[List.foldl_append];rfl
theorem oO(df:Bool)(ch full:Nat)(l:au):(dh df ch full l).length=l.length:=by
 have:∀n (l:au),l.length=n->(dh df ch full l).length=l.length:=by
  intro n;induction n with
  | zero=>intro l h;rw[dt h];rfl
  | succ n ih =>
   intro l h;obtain⟨i,x,rfl⟩:∃i x,l=i++[x]:=by
    rcases uZ l with rfl|⟨i,x,rfl⟩
    ·simp at h
    exact⟨i,x,ah⟩
   rw[Kd,ak,ih i (by simpa using h)];simp
 exact this _ l rfl
theorem Cp{l:au}{r:Nat}(h:l[k]?=some r):dh df ch full (l.take (k+1))=dh df ch full (l.take k)++[if df=true/\ch<=k then(r+(dh df ch full (l.take k))[k-ch]?.getD 0)%full else r]:=by
 have hlt:=(dH.1 h).1;have he:=(dH.1 h).2;have hl:(dh df ch full (l.take k)).length=k:=by rw[oO,bg];omega
 rw[bK hlt,Kd,hl,he]
def bY(wide:Bool):Nat:=if wide then 65536 else 256
def ep(wide:Bool)(u:Nat):Int:=if wide then(if 32768<=u then(u:Int)-65536 else u)else((u:Int)-128)*256
def aH(coding:Nat):Bool:=decide (coding%2=1)
def cj(coding:Nat):Bool:=decide (2<=coding)
def iT(b:ab)(coding ch:Nat):List Int:=(dh (cj coding) ch (bY (aH coding)) (cK (aH coding) b)).map (ep (aH coding))
def fK(wide:Bool)(v:Int):Nat:=if wide then(v%65536).toNat else((v/256+128)%256).toNat
def jg(df:Bool)(ch full:Nat)(l:au)(i:Nat):Nat:=if df=true/\ch<=i then(l[i]?.getD 0+full-l[i-ch]?.getD 0)%full else l[i]?.getD 0
def iI(wide:Bool)(u:Nat):ab:=if wide then[aD (u%256),aD (u/256)]else[aD u]
def tJ(l:List Int)(coding ch:Nat):ab:=(bZ l.length).flatMap λi=>iI (aH coding) (jg (cj coding) ch (bY (aH coding)) (l.map (fK (aH coding))) i)
abbrev dA(c:cu):Bool:=c.1 == 70||c.1 == 68
abbrev iW:=Int×cu
def dw:Nat->List cu->List iW
 | _,[]=>[]
 | i,c::l=>if dA c=true then dw (i+1) l else((i:Int),c)::dw (i+1) l
theorem tq:∀(l:List cu) (i:Nat) (c:cu),dw i (l++[c])=dw i l++(if dA c=true then[]else[(((i+l.length:Nat):Int),c)])
 | [],i,c=>by simp only[aL,dw,aK,ln]
 | d::l,i,c=>by
  have e:i+1+l.length=i+(d::l).length:=by simp;omega
  simp only[bb,dw];split
  ·rw[tq l (i+1) c,e]
  rw[tq l (i+1) c,e];rfl
theorem yT:∀(l:List cu) (i:Nat),∀n∈dw i l,(i:Int)<=n.1/\n.1<((i+l.length:Nat):Int)/\n.2∈l/\dA n.2=false
 | [],_,n,h=>by simp[dw]at h
 | c::l,i,n,h=>by
  simp only[dw]at h;have iY:n∈dw (i+1) l->(i:Int)<=n.1/\n.1<((i+(c::l).length:Nat):Int)/\n.2∈c::l/\dA n.2=false:=λh=>by obtain⟨h1,h2,h3,h4⟩:=yT l (i+1) n h;refine⟨aa,by simp only[aq];omega,by simp[h3],h4⟩
  split at h
  ·exact iY h
  rename_i hf;rcases bP.1 h with rfl|h
  ·exact⟨aa,by simp only[aq];omega,ah,by simpa using hf⟩
  exact iY h
theorem IB:∀(l:List cu) (i:Nat),(dw i l).length+(l.filter dA).length=l.length
 | [],_=>rfl
 | c::l,i=>by
  have:=IB l (i+1);simp only[dw];by_cases h:dA c=true
  ·rw[ag h,Jb h];simp only[aq];omega
  rw[ae h,Jc h];simp only[aq];omega
theorem N8:∀(l:List cu) (i:Nat),(dw i l).Pairwise λa b=>a.1<b.1
 | [],_=>List.Pairwise.nil
 | c::l,i=>by
  simp only[dw];split
  ·exact N8 l (i+1)
  exact qv.2 ⟨λb hb=>by have:=(yT l (i+1) b hb).1;show(i:Int)<_;omega,N8 l (i+1)⟩
def xd:Nat->Nat->List iW->List cu->List cu
 | 0,_,_,_=>[]
 | n+1,i,[],own=>own.head?.getD (0,[])::xd n (i+1) [] own.tail
 | n+1,i,m::r,own=>if m.1=(i:Int)then m.2::xd n (i+1) r own else own.head?.getD (0,[])::xd n (i+1) (m::r) own.tail
theorem ZJ:∀(l:List cu) (i:Nat),xd l.length i (dw i l) (l.filter dA)=l
 | [],_=>rfl
 | c::l,i=>by
  have ih:=ZJ l (i+1);simp only[dw,aq];by_cases h:dA c=true
  ·rw[ag h,Jb h];cases hn:dw (i+1) l with
   | nil =>rw[hn]at ih;simp only[xd,gJ,oI,mf,ih]
   | cons m r =>have:=(yT l (i+1) m (by rw[hn];simp)).1;rw[hn]at ih;simp only[xd];rw[ae aa];simp only[gJ,oI,mf,ih]
  rw[ae h,Jc h];simp only[xd];rw[ag trivial,ih]
def fg(n:iW):ab:=az n.1++n.2.1::eh n.2.2
def EJ(l:ab)(p:Nat):lE iW :=
 match fN l p with
 | .bad c i=>.bad c i
 | .ok n q=>match l[q]? with
  | none=>.bad 15 q
  | some x=>match GM l (q+1)with
   | .bad c i=>.bad c i
   | .ok d r=>.ok (n,x,d) r
theorem agG{n:iW}(h1 : -9223372036854775808<=n.1/\n.1<=9223372036854775807)(h2:n.2.2.length<=1099511627776){l r:ab}{p:Nat}(hp:p<=l.length)(h:l.drop p=fg n++r):EJ l p=.ok n (p+(fg n).length):=by
 have e:l=l.take p++(fg n++r):=by rw[<-h,eW]
 have hpl:(l.take p).length=p:=by simp;omega
 unfold fg at e;have n1:=mM h1.1 h1.2 (l.take p) (n.2.1::eh n.2.2++r);rw[hpl,show l.take p++(az n.1++(n.2.1::eh n.2.2++r))=l by rw[bj]at e;exact e.symm]at n1;have e2:l=(l.take p++(az n.1++[n.2.1]))++(eh n.2.2++r):=by
  conv=>lhs;rw[e]
  simp
 have hq:l[p+(az n.1).length]?=some n.2.1:=by rw[e2,qx (by simp;omega),BQ aa,hpl];simp
 have n2:=Rn h2 (l.take p++(az n.1++[n.2.1])) r;rw[<-e2,show(l.take p++(az n.1++[n.2.1])).length=p+(az n.1).length+1 by simp only[ak,hpl,List.length_singleton];omega]at n2;unfold EJ;rw[n1];simp only;rw[hq];simp only;rw[n2];simp only[fg,ak,aq];congr 1;omega
structure Qz(m:Nat)(last:Int)(n:iW):Prop where
 lo:65<=n.2.1.toNat
 hi:n.2.1.toNat<=90
 ne:dA n.2=false
 aR:last<n.1
 fF:n.1<m+2
instance(m:Nat)(last:Int)(n:iW):Decidable (Qz m last n):=decidable_of_iff (65<=n.2.1.toNat/\n.2.1.toNat<=90/\dA n.2=false/\last<n.1/\n.1<m+2) ⟨λ⟨a,b,c,d,e⟩=>⟨a,b,c,d,e⟩,λ⟨a,b,c,d,e⟩=>⟨a,b,c,d,e⟩⟩
def wi(m:Nat)(last:Int):List iW->Bool
 | []=>true
 | n::r=>decide (Qz m last n)&&wi m n.1 r
theorem VR{m:Nat}:∀ {l:List iW} {a:Int},wi m a l=true->l.Pairwise (λa b=>a.1<b.1)/\∀n∈l,a<n.1/\n.1<m+2/\dA n.2=false/\65<=n.2.1.toNat/\n.2.1.toNat<=90
 | [],_,_=>⟨List.Pairwise.nil,ah⟩
 | n::l,a,h=>by
  simp only[wi,eD,eQ]at h;obtain⟨h1,h2⟩:=h;obtain⟨g1,g2⟩:=VR h2;refine⟨qv.2 ⟨λb hb=>(g2 b hb).1,g1⟩,λx hx=>?_⟩;rcases bP.1 hx with rfl|hx
  ·exact⟨h1.aR,h1.fF,h1.ne,h1.lo,h1.hi⟩
  obtain⟨q1,q2⟩:=g2 x hx;have:=h1.aR;exact⟨aa,q2⟩
theorem VS{m:Nat}:∀ {l:List iW} {a:Int},l.Pairwise (λa b=>a.1<b.1)->(∀n∈l,a<n.1/\n.1<m+2/\dA n.2=false/\65<=n.2.1.toNat/\n.2.1.toNat<=90)->wi m a l=true
 | [],_,_,_=>rfl
 | n::l,a,hp,h=>by obtain⟨q1,q2⟩:=qv.1 hp;obtain⟨a1,a2,a3,a4,a5⟩:=h n ah;simp only[wi,eD,eQ];exact⟨⟨a4,a5,a3,a1,a2⟩,VS q2 λx hx=>⟨q1 x hx,(h x (by simp[hx])).2⟩⟩
def kR(coding:Nat)(ns:List iW):ab:=if coding=1/\ns=[]then[]else az coding++cm fg ns
def FJ(b:ab):Option (Nat×List iW) :=
 if b=[]then some (1,[])else match fN b 0 with
  | .bad _ _=>none
  | .ok c p=>if c<0\/4<=c then none else match iZ b (EJ b) 1000 p with
   | .bad _ _=>none
   | .ok ns q=>if q≠b.length\/(c=1/\ns=[])then none else if wi ns.length (-1) ns=true then some (c.toNat,ns)else none
theorem ake{coding:Nat}{ns:List iW}(hc:coding<4)(hl:ns.length<=1000)(hok:wi ns.length (-1) ns=true)(hd:∀n∈ns,n.2.2.length<=1099511627776):FJ (kR coding ns)=some (coding,ns):=by
 unfold kR;split
 ·rename_i h;obtain⟨rfl,rfl⟩:=h;rfl
 rename_i hne;obtain⟨b,hb⟩:∃b,b=az (coding:Int)++cm fg ns:=⟨_,rfl⟩
 rw[<-hb];have hp:=qq (zz (coding:Int));have hbl:b≠[]:=by intro h;rw[h]at hb;have:=ax bU hb;simp only[aK,ak,az]at this;omega
 have n1:=mM (n:=(coding:Int)) aa aa [] (cm fg ns);simp only[aL,<-hb,aK,dR]at n1;have n2:=mM (n:=(ns.length:Int)) aa aa (az (coding:Int)) (ns.flatMap fg);have hb2:az (coding:Int)++(az (ns.length:Int)++ns.flatMap fg)=b:=hb.symm;rw[hb2]at n2;have Ms:=ax bU hb2;simp only[ak]at Ms;have hall:=(VR hok).2;have n3:=Bl (f:=fg) (b:=b) (one:=EJ b) ns ((az (coding:Int)).length+(az (ns.length:Int)).length) aa (λx hx q r hq h=>agG (by obtain⟨a1,a2,_⟩:=hall x hx;constructor<;>omega) (hd x hx) hq h) [] (by rw[<-hb2,<-bj,<-ak,List.drop_left];simp)
 have n4:iZ b (EJ b) 1000 (az (coding:Int)).length=.ok ns b.length:=by unfold iZ;rw[n2];simp only;rw[ae aa,jr,n3];congr 1;omega
 unfold FJ;rw[ae hbl,n1];simp only;rw[ae aa,n4];simp only;rw[ae (by
  rintro(h|⟨h1,h2⟩)
  ·exact h rfl
  exact hne ⟨aa,h2⟩),ag hok,jr]
theorem G9(hV:Sub V W){x y:Sl}{a b:ab}(hx:aF V x a)(hy:aF V y b):aB 129 [x.v,y.v] W λv w'=>v=.bool (decide (a=b))/\Rel W V [] V w':=by have H:=aG hV;have h1:=hx.len;have h2:=hy.len;have pd:Cells W x.a (a.map bv):=iu a▸(hx.up hV).cells;have hcy:Cells W y.a (b.map bv):=iu b▸(hy.up hV).cells;refine eV Tryz.func129 10 [0,1,4] ?_;refine wk ?_;exact H
theorem Hy(hV:Sub V W){x y:Sl}{a b:ab}(hx:aF V x a)(hy:aF V y b):aB 190 [x.v,y.v] W λv w'=>v=.bool (decide (a.take b.length=b))/\Rel W V [] V w':=by
 have H:=aG hV;have h1:=hx.len;have h2:=hy.len;have hc:=hx.cap;refine eV Tryz.func190 18 [0,1,4] ?_;by_cases hl:b.length<=a.length
 ·have hsub:=hx.sub (n:=1) (λ_=>rfl) (a:=0) (b:=y.len) aa aa;rw[lj]at hsub;refine wk ((G9 H.data hsub hy).use ?_);rintro v w⟨rfl,K⟩;replace H:=Rel.call H K;refine wk ?_;exact⟨by rw[h2],H.sx⟩
 refine wk ?_;refine⟨?_,H.sx⟩;rw[bA];intro h;have:=ax bU h;simp at this;omega
theorem C5(hV:Sub V W){x y:Sl}{a b:ab}(hx:aF V x a)(hy:aF V y b):aB 192 [x.v,y.v] W λv w'=>(∃r:Sl,v=.tuple #[r.v,.bool (decide (a.take b.length=b))]/\(a.take b.length=b->aF V r (a.drop b.length)))/\Rel W V [] V w':=by
 have H:=aG hV;have h1:=hx.len;have h2:=hy.len;have hc:=hx.cap;refine eV Tryz.func192 15 [0,1,4,5,9] ?_;refine wk (H.us (Hy H.data hx hy) ?_);intro w H;by_cases hp:a.take b.length=b
 ·have hl:b.length<=a.length:=by have:=ax bU hp;simp at this;omega
  have hsub:=hx.sub (n:=1) (λ_=>rfl) (a:=y.len) (b:=x.len) aa aa;rw[h1,fA]at hsub;rw[bw hp];refine wk ?_;refine⟨⟨⟨bo x.a y.len x.cap 1,x.len-y.len,x.cap-y.len⟩,rfl,λ_=>?_⟩,H.sx⟩;rw[h1];rw[h2]at hsub |-;exact hsub
 rw[bA hp];refine wk ?_;exact⟨⟨x,rfl,λh=>absurd h hp⟩,H.sx⟩
theorem xz(hV:Sub V W){s:Sl}{l:ab}(hs:aF V s l)(hl:l.length<=1000000000):aB 73 [s.v] W λv w'=>∃r:Sl,v=r.v/\Rel W V [.row r 5 1 (l.flatMap aI)] V w':=by
 have H:=aG hV;have hlen:=hs.len;refine eV Tryz.func73 8 [0,2,4] ?_;rcases s with⟨_|p,n,c⟩
 ·have qh:l=[]:=by
   rcases l with _|⟨b,l⟩
   ·rfl
   have:=hs.cells.1 (by simp[iu]);simp[Plain]at this
  subst qh;refine wk ?_;exact⟨⟨none,0,0⟩,rfl,H.br _ _⟩
 refine H.wn ?_;intro w b5 H;refine wk ?_;replace H:=H.gh (n:=0) (e:=5) (sz:=1) rfl (by simp[maxLen]);refine Rel.jO (s:=⟨some ⟨b5,0,none⟩,0,0⟩) (xs:=[]) H (i:=0) rfl hs (by simp;omega) ?_;intro r1 w H;simp only[bH]at H;rw[aL]at H;refine wk ?_;exact⟨r1,rfl,H⟩
section
variable{w0 V0 V w:ad}{own:cx}
theorem Rel.Ru{src dst:TypeId}(hs:P.underlying src=some .string)(hd:P.underlying dst=some (.slice e))(he:P.underlying e=some (.int .u8))(H:Rel w0 V0 own V w)(l:ab){k:aj->ad->Prop}
  (hk:∀V' s w',Ext w w'->Sub V V'->aF V' s l->Rel w0 V0 own V' w'->k s.v w'):bE P (convert src dst (str l)) w k:=by
 refine .of (run_bytes_of_string w src dst e _ hs hd he) ?_
 have HR:Ext w (w.drew.alloc (.cells (bytesRow ⟨l.toArray⟩ (grownCap w (ByteArray.size ⟨l.toArray⟩) 0 e)) e ((bytesRow ⟨l.toArray⟩ (grownCap w (ByteArray.size ⟨l.toArray⟩) 0 e)).size,(bytesRow ⟨l.toArray⟩ (grownCap w (ByteArray.size ⟨l.toArray⟩) 0 e)).size+1))) :=
  ⟨rfl,rfl,rfl,ah,λc hc=>heap_alloc_old w.drew _ c hc⟩
 obtain⟨V',h1,h2,h3⟩:=(H.ext HR).freeze (List.Sublist.refl _);refine hk V' ⟨some ⟨w.heap.size,0,none⟩,l.length,_⟩ _ HR h1 ⟨rfl,grownCap_ge w _ 0 e,?_⟩ h2;have hv:=h3 w.heap.size _ _ _ H.base.size (heap_alloc_new w.drew _) (λr hr hb=>by have:=aT.lt (H.laid r hr) hb;omega);refine⟨λ_=>rfl,λj v hj=>?_⟩;simp only[bW,bM,dR];rw[iu]at hj;simp only[World.cell?,hv];have fe:j<l.length:=by have:=(dH.1 hj).1;simpa using this
 rw[ib,bz fe]at hj;simp only[gQ,mR]at hj;subst hj;rw[bytesRow,Array.getElem?_append_left (by simpa using fe)];simp[fe]
end
theorem aA.fF{f:α->aC}{l:List α}(h:aA f V s l){g g':α->aj}(hf:∀x,f x=[g x,g' x]){i:Nat}(hi:i<l.length):Plain s.a/\V.cell? ⟨bW s.a,bM s.a+i*2,none⟩=some (g l[i])/\V.cell? ⟨bW s.a,bM s.a+i*2+1,none⟩=some (g' l[i]):=by obtain⟨h1,h2⟩:=h.get (n:=2) (λx=>by rw[hf];rfl) aa hi;exact⟨h1,h2 0 _ (by rw[hf];rfl),h2 1 _ (by rw[hf];rfl)⟩
theorem dN.j4(h:dN V b (l.map bv) t)(hn:n=l.length):aF V ⟨some ⟨b,0,none⟩,n,n⟩ l:=⟨hn,aQ _,by rw[iu];exact h.cells⟩
def vn(V:ad)(g:FuncId)(cap:aC)(a:aj)(bs:ab):Prop :=
 ∀V1 W1,Sub V V1->Sub V1 W1->tF g (a::cap).toArray W1 λv w'=>∃(V2:ad) (r:Sl),Sub V1 V2/\v=r.v/\aF V2 r bs/\Rel W1 V1 [] V2 w'
theorem vD{enc:α->ab}{l:List α}(hk:k<l.length):((l.take k).flatMap enc).length+(enc l[k]).length<=(l.flatMap enc).length:=by
 conv=>rhs;rw[<-eW k l,cw,dk hk,bD]
 simp only[ak];omega
theorem Hi{enc:α->ab}{l:List α}{a:ab}(hk:k<l.length):a++(l.take k).flatMap enc++enc l[k]=a++(l.take (k+1)).flatMap enc:=by rw[bK hk,cw,bj];simp only[bD,eL,aZ]
structure Pw{α β:Type}(R:ad->β->α->Prop)(V:ad)(xs:List β)(ys:List α):Prop where
 len:xs.length=ys.length
 all:∀(k:Nat) x y,xs[k]?=some x->ys[k]?=some y->R V x y
section
variable{α β:Type}{R:ad->β->α->Prop}{V V':ad}{xs:List β}{ys:List α}
theorem Pw.nil:Pw R V [] []:=⟨rfl,λk x y h=>by simp at h⟩
theorem Pw.up(hR:∀V V' x y,Sub V V'->R V x y->R V' x y)(h:Pw R V xs ys)(hs:Sub V V'):Pw R V' xs ys:=⟨h.len,λk x y h1 h2=>hR _ _ _ _ hs (h.all k x y h1 h2)⟩
theorem Pw.snoc(h:Pw R V xs ys){x:β}{y:α}(hx:R V x y):Pw R V (xs++[x]) (ys++[y]):=by
 refine⟨by simp[h.len],λk a b h1 h2=>?_⟩;have hl:=h.len;by_cases hk:k<xs.length
 ·rw[qx hk]at h1;rw[qx aa]at h2;exact h.all k a b h1 h2
 rw[BQ aa]at h1 h2;have e:k-xs.length=0:=by have:=(dH.1 h1).1;simp at this;omega
 rw[e]at h1;rw[<-hl,e]at h2;cases h1;cases h2;exact hx
theorem Pw.eq{xs ys:List α}(h:Pw (λ_ x y=>x=y) V xs ys):xs=ys:=by refine WW h.len λk h1 h2=>?_;exact h.all k _ _ (bz h1) (bz h2)
end
def RL{α β:Type}(f:β->aC)(R:ad->β->α->Prop)(V:ad)(r:Sl)(ys:List α):Prop:=∃xs,aA f V r xs/\Pw R V xs ys
section
variable{w0 V0 V w:ad}{own:cx}
theorem Rel.cV{f:α->aC}{l:List α}(H:Rel w0 V0 own V w)(hi:own[i]?=some (.row s e n (l.flatMap f)))(hf:∀x,(f x).length=n)(hn:0<n):aA f w s l:=by
 have hr:=H.rowAt hi;refine⟨H.dW hi hf hn,?_,hr.cells⟩;rcases hr.at_ with⟨_,h2,h3⟩|⟨b,cur,_,_,h3,_⟩
 ·omega
 exact h3
theorem Rel.Ya{e sz:Nat}{xs:aC}(H:Rel w0 V0 own V w)(hi:own[i]?=some (.row s e sz xs)){k:Nat}(hk:k<=s.len):Rel w0 V0 (own.set i (.row ⟨bo s.a 0 s.cap sz,k-0,s.cap-0⟩ e sz (xs.take (k*sz)))) V w:=by
 have hr:=H.rowAt hi;have hsub:bo s.a 0 s.cap sz=s.a:=by
  rcases hr.at_ with⟨h1,_⟩|⟨b,cur,h1,_⟩
  ·rw[h1,aky]
  rw[h1];unfold bo;split
  ·rfl
  simp[Addr.add]
 refine H.put hi rfl rfl rfl (aQ _) (λc _ _=>rfl) ?_ λb hb=>.inl ?_
 ·rw[hsub];refine⟨by rw[bg,hr.len];simp only[WX];exact tB (kr _ hk),?_⟩;rcases hr.at_ with⟨h1,h2,h3⟩|⟨b,cur,h1,h2,h3,h4,h5,h6⟩
  ·exact .inl ⟨h1,by simp only[];omega,by simp only[];omega⟩
  refine .inr ⟨b,cur,h1,h2,by simp only[];omega,by simp only[];omega,by simpa using h5,?_⟩;rw[<-h6,List.take_take];simp only[WX];rw[tB (kr _ hk)]
 simpa [aT.at_,hsub]using hb
def zo(s:Sl):au:=match s.a with|none=>[]|some p=>[p.block]
theorem Rel.VW(H:Rel w0 V0 own V w){X:au}{l:aC}{t:TypeId}{G:ad->Nat->Prop}(k:∀w' b,Rel w0 V0 (.ay b l t::own) V w'->G w' b):∀w' b,pP w b l t w'->lF X w w'/\G w' b :=
 λw' b h=>⟨lF.ext h.ext,k w' b (H.EI h)⟩
theorem Rel.JM(H:Rel w0 V0 own V w){i:Nat}{s:Sl}{e sz:Nat}{xs:aC}(hi:own[i]?=some (.row s e sz xs)){w1:ad}(hs:lF (zo s) w w1):∃E,Rel E E (own.eraseIdx i) V w1:=by
 cases ha:s.a with
 | some p=>exact H.Cd (b:=p.block) hi (by simp[aT.at_,ha]) (by simpa [zo,ha]using hs)
 | none =>have hb:∀j,j<w.heap.size->w1.heap[j]?=w.heap[j]?:=λj hj=>hs.block j hj (by simp[zo,ha]);have Hs:=H.sl (ahV own i);refine⟨{ w1 with heap:=#[] },⟨rfl,rfl,rfl,ah,λk hk=>by simp at hk⟩,⟨λc a t f hc=>by simp at hc⟩,λc hc=>by simp at hc,λx hx=>aT.km (Hs.laid x hx) λb jD=>hb b (aT.lt (Hs.laid x hx) jD),λx hx c hc=>by simp,Hs.hid,Hs.apart,⟨λc a t f hc=>?_⟩⟩;have h1:=Hs.data.cS c a t f hc;rw[hb c (ku.1 h1).1];exact h1
theorem Rel.QP{T:List TD}(hT:cg P T){t ty e:TypeId}{d de:TD}(hd:T[t]?=some d)(hu:d.under=.slice e)(hde:T[e]?=some de){z:aj}(hz:de.zero=some z)(hzs:z.cells.size=de.size)(hsz:0<de.size)
  {α:Type} {f:α->aC} {l:List α} {x:α} (hf:∀y,(f y).length=de.size) (h1:∀u∈f x,u.oneCell'=true) {s:Sl} {b:Nat} {t':TypeId} (H:Rel w0 V0 (.ay b (f x) t'::own) V w) {i:Nat} (hi:own[i]?=some (.row s e de.size (l.flatMap f)))
  (hb:(l.length+1)*de.bytes<=140737488355328) (hm:l.length+1<=4611686018427387904)
  {k:aj->ad->Prop} (hk:∀s' w',Rel w0 V0 (own.set i (.row s' e de.size ((l++[x]).flatMap f))) V w'->k s'.v w'):bE P (Builtin.append_ #[t,t] ty #[s.v,.slice (some ⟨b,0,none⟩) 1 1]) w λv w'=>lF (zo s) w w'/\k v w':=by
 have hx:Cells w (some ⟨b,0,none⟩) (f x):=(H.sV).cells;have hl:=H.pY.dW hi hf hsz;have hr:=H.pY.rowAt hi;refine QS (x:=⟨some ⟨b,0,none⟩,1,1⟩) hT hd hu hde hz hzs hsz hr hx (by rw[hf];simp) h1 (by rw[hl];exact hb) (by rw[hl];exact hm) λs' w' hr' _ hg=>⟨⟨hg.size,λc hc hne=>hg.block c hc ?_⟩,hk s' w' ?_⟩
 ·cases hs:s.a with
  | none=>exact .inl rfl
  | some p=>refine .inr λe=>hne ?_;rw[e];simp[zo,hs,bW]
 have hra:=hr.at_;have H1:=H.pY;have:=H1.put (i:=i) hi (r':=.row s' e de.size (l.flatMap f++f x)) hg.os hg.tape hg.output hg.size (λc hc hne=>hg.block c hc (by
  cases hs:s.a with
  | none=>exact .inl rfl
  | some p=>refine .inr λe=>hne ?_;rw[e];simp[aT.at_,hs,bW])) hr' λb hb=>by
   simp only[aT.at_,Option.map_eq_some_iff]at hb |-;obtain⟨p,hp,rfl⟩:=hb;rcases hg.own with h|⟨h,h'⟩|h
   ·rw[hp]at h;cases h
   ·cases hs:s.a with
    | none=>exact absurd hs h
    | some q=>rw[hp,hs]at h';exact .inl ⟨q,rfl,h'.symm⟩
   rw[hp]at h;exact .inr h
 rw[cw];simp only[bD,eL,aZ];exact this
theorem Rel.QQ{xs ys:List Int}(H:Rel w0 V0 own V w)(hi:own[i]?=some (.row s 3 1 (xs.flatMap bN)))(hx:aA bN V x ys)(hb:xs.length+ys.length<=1099511627776){ty:TypeId}{k:aj->ad->Prop}
  (hk:∀s' w',Rel w0 V0 (own.set i (.row s' 3 1 ((xs++ys).flatMap bN))) V w'->k s'.v w'):bE Tryz.prog (Builtin.append_ #[50,50] ty #[s.v,x.v]) w k:=by
 have hl:=H.dW hi (λ_=>rfl) ai;have hxl:=hx.len;refine Rel.uc al rfl rfl rfl rfl rfl ai H hi (hx.up H.data).cells (by rw[kW (n:=1) (λ_=>rfl),hxl]) (λu hu=>by obtain⟨x,_,hx⟩:=uY.1 hu;rw[cz.1 hx];rfl) (by rw[hl,hxl];simp;omega) (by rw[hl,hxl];omega) ?_
 intro s' w' H' _;refine hk s' w' ?_;rw[cw];exact H'
end
section
variable{w0 V0 V w:ad}{own:cx}
theorem ajC(P:Program)(w:ad)(t e:TypeId){b n c:Nat}{l:aC}{u:TypeId}(ht:P.underlying t=some (.slice e))(he:P.underlying e=some (.int .u8))(hb:dN w b l u) :
  (convert t t (.slice (some ⟨b,0,none⟩) n c)).run P w=.ok (.slice (some ⟨b,0,none⟩) n c) { w with heap:=w.heap.setIfInBounds b (.cells l.toArray u (l.length,l.length+1)) }:=by
 have hsh:w.shape? b=some (u,l.length):=by unfold World.shape?;rw[show w.heap[b]?=_ from hb];simp
 have hfr:w.freeze ⟨b,l.length,none⟩ 1={ w with heap:=w.heap.setIfInBounds b (.cells l.toArray u (l.length,l.length+1)) }:=by
  unfold World.freeze;rw[ae ai];congr 1;have hlt:=hb.lt;have fL:w.heap[b]=.cells l.toArray u (0,0):=(ku.1 hb).2;apply Array.ext
  ·simp
  intro i h1 h2;have h3:i<w.heap.size:=by simpa using h2
  rw[Array.getElem_setIfInBounds (by simpa using h2),Array.getElem_modify];by_cases h:b=i
  ·subst h;simp[fL]
  simp[h]
 simp[convert,run_underlying ht,run_underlying he,markStringish,hsh,hfr]
theorem Rel.C2(ht:P.underlying t=some (.slice e))(he:P.underlying e=some (.int .u8)){b:Nat}{l:ab}{u:TypeId}(H:Rel w0 V0 (.ay b (l.flatMap aI) u::own) V w){n:Nat}(hn:n=l.length){k:aj->ad->Prop}
  (hk:∀V' w',Sub V V'->aF V' ⟨some ⟨b,0,none⟩,n,n⟩ l->Rel w0 V0 own V' w'->k (.slice (some ⟨b,0,none⟩) n n) w'):bE P (convert t t (.slice (some ⟨b,0,none⟩) n n)) w k:=by
 have hb:=H.sV;refine .of (ajC P w t e ht he hb) ?_;have hlt:=hb.lt
 have H2:Rel w0 V0 (.obj b (.cells (l.flatMap aI).toArray u ((l.flatMap aI).length,(l.flatMap aI).length+1))::own) V { w with heap:=w.heap.setIfInBounds b (.cells (l.flatMap aI).toArray u ((l.flatMap aI).length,(l.flatMap aI).length+1)) } :=
  H.put (i:=0) rfl rfl rfl rfl ah (λc hc hne=>by have:b≠c:=λe=>hne (by rw[e];rfl);simp[OW this]) (by simp[aT.laid,hlt]) λc hc=>.inl hc
 obtain⟨V',h1,h2,h3⟩:=H2.freeze (List.sublist_cons_self _ _);refine hk V' _ h1 ⟨hn,aQ _,λ_=>rfl,λj v hj=>?_⟩ h2;have hv:=h3 b _ _ _ (H.new (.ay b (l.flatMap aI) u) ah b rfl) (H2.agW (i:=0) rfl) (λr hr iX=>(qv.1 H.apart).1 r hr b rfl iX);simp only[World.cell?,bW,bM,dR,hv];simpa using hj
theorem Rel.K0{s d:TypeId}(hs:(P.underlying s).isSome=true)(hd:P.underlying d=some .string){k:IntKind}{n:Int}{G:aj->ad->Prop}(hk:G (.string (Utf8.encode n)) w):bE P (convert s d (.int k n)) w G :=
 .of (run_convert_int_string w s d k n hs hd) hk
theorem Rel.abV{s d:TypeId}(hs:P.underlying s=some (.slice e))(he:P.underlying e=some (.int .i32))(hd:P.underlying d=some .string){b:Nat}{zs:List Int}{u:TypeId}(H:Rel w0 V0 (.ay b (zs.map (bO .i32)) u::own) V w){n:Nat}(hn:n=zs.length){G:aj->ad->Prop}
  (hk:G (.string (runesBytes zs)) w):bE P (convert s d (.slice (some ⟨b,0,none⟩) n n)) w G:=by
 refine .of (run_convert_runes w s d e ⟨b,0,none⟩ n n zs aa hs he hd λj hj=>?_) ?_
 ·have:=H.sV.cell j;rw[show(⟨b,0,none⟩:Addr).add j=⟨b,0+j,none⟩from addr_add ..,dR,this];simp[hj,List.getD]
 rw[bJ aa];exact hk
theorem ajA(P:Program)(w:ad)(t u ty e:TypeId)(i:TypeInfo)(z:aj)(ht:P.underlying t=some (.slice e))(hu:P.underlying u=some (.int .i64))(hi:P.info? e=some i)(hz:i.zero=some z)(n:Nat)(hs:i.size=1)(hb:i.bytes=1)
  (h0:0<n) (h48:n<=281474976710656) :
  (Builtin.append_ #[t,u] ty #[.slice none 0 0,.int .i64 n]).run P w =
   .ok (.slice (some ⟨w.heap.size,0,none⟩) n (grownCap w n 0 e)) (w.drew.alloc (.cells (Builtin.zeroCells z.cells n++Builtin.zeroCells z.cells (grownCap w n 0 e-n)) e)):=by
 have hn:n≠0:=aa;have hw:IntKind.i64.wrap (n:Int)=n:=wrap_small _ aa aa;have adA:¬(9223372036854775807<(n:Int)):=aa;have ady:¬(281474976710656<Builtin.nextslicecap n 0):=by rw[nextslicecap_zero h0];omega
 have adz:¬(281474976710656<(n:Int)):=aa;simp[Builtin.append_,run_underlying ht,run_underlying hu,sizeOf,typeInfo,zeroValue,hi,hz,hs,hb,hw,asInt,asIntOf,hn,adA,ady,adz,Question.forced,run_firstCells_none,newRow,grownCap];intro h;omega
end
section
variable{w0 V0 V w:ad}{own:cx}
theorem KL(ht:P.underlying t=some (.slice e)){a:Option Addr}{n c:Nat}{k:aj->ad->Prop}(hk:k (.int .i64 c) w):bE P (Builtin.cap_ #[t] ty #[.slice a n c]) w k:=by refine .of (w':=w) ?_ hk;simp[Builtin.cap_,run_underlying ht,goInt]
theorem amx(n:Nat):(Builtin.zeroCells (bO .u8 0).cells n).toList=eP n (.int .u8 0):=by have h:(bO .u8 0).cells=#[.int .u8 0]:=rfl;rw[h];refine WW (by simp[Builtin.zeroCells]) λi h1 h2=>?_;simp[Builtin.zeroCells,Nat.mod_one]
theorem adu(w:ad)(n e:Nat)(h:n<=1099511627776):grownCap w n 0 e<=maxLen:=grownCap_le_maxLen w n 0 e (by simp only[maxLen];omega)
theorem Rel.aaP(H:Rel w0 V0 own V w){n:Nat}(h0:0<n)(hn:n<=1099511627776){ty:TypeId}{k:aj->ad->Prop}
  (hk:∀s' w',Rel w0 V0 (.row s' 5 1 (eP n (.int .u8 0))::own) V w'->s'.len=n->k s'.v w'):bE Tryz.prog (Builtin.append_ #[22,3] ty #[.slice none 0 0,.int .i64 n]) w k:=by
 obtain⟨i,hi,om,te,hi3⟩:=(al _ _ (show lB[5]?=some _ from rfl)).info;have kg:=ajA Tryz.prog w 22 3 ty 5 i (.int .u8 0) Tryz.underlying22 Tryz.underlying3 hi hi3 n om te h0 aa;refine .of kg ?_
 have HR:Ext w (w.drew.alloc (.cells (Builtin.zeroCells (bO .u8 0).cells n++Builtin.zeroCells (bO .u8 0).cells (grownCap w n 0 5-n)) 5)) :=
  ⟨rfl,rfl,rfl,ah,λc hc=>heap_alloc_old w.drew _ c hc⟩
 refine hk ⟨some ⟨w.heap.size,0,none⟩,n,grownCap w n 0 5⟩ _ (H.more HR ?_ λb hb=>?_) rfl
 ·have rC:=grownCap_ge w n 0 5;refine⟨ah,.inr ⟨w.heap.size,_,rfl,⟨(0,0),heap_alloc_new w.drew _,.zero _⟩,rC,adu w n _ hn,?_,?_⟩⟩
  ·simp only[Array.size_append,size_zeroCells];have:(bO .u8 0).cells.size=1:=rfl;rw[this];omega
  rw[Array.toList_append,List.take_append_of_le_length (by rw[y9,size_zeroCells];simp[Value.cells]),bJ (by rw[y9,size_zeroCells];simp[Value.cells])];exact amx n
 simp only[aT.at_,gQ,mR]at hb;omega
end
theorem adt(hV:Sub V W){n:Nat}(hn:n<=1099511627776):aB 270 [.slice none 0 0,iv n] W λv w'=>∃r:Sl,v=r.v/\Rel W V [.row r 5 1 []] V w':=by
 have H:=aG hV;refine eV Tryz.func270 27 [0,1,4,6,16] ?_;by_cases h0:n=0
 ·subst h0;refine wk ?_;refine KL Tryz.underlying22 ?_;refine wk ?_;exact⟨⟨none,0,0⟩,rfl,H.br _ _⟩
 refine wk ?_;refine KL Tryz.underlying22 ?_;refine wk ?_;refine KL Tryz.underlying22 ?_;refine wk ?_;refine Rel.aaP H (n:=n) aa hn ?_;intro s' w H hs;have hc:s'.len<=s'.cap:=by have hr:=H.rowAt (i:=0) rfl;exact hr.cap
 refine wk ?_;have H2:=H.Ya (i:=0) rfl (k:=0) (cE _);exact⟨_,rfl,H2⟩
abbrev du(s:Sl):aC:=[s.v]
abbrev lW(V:ad)(x:Sl)(y:ab):Prop:=aF V x y
theorem Ta(ll:bf)(k:Nat):((ll.take k).flatten).length<=ll.flatten.length:=by
 conv=>rhs;rw[<-eW k ll,BR]
 simp
theorem C0(hV:Sub V W){s:Sl}{hl:List Sl}{ll:bf}(hs:aA du V s hl)(hp:Pw lW V hl ll)(hll:ll.length<=1000000)(hb:ll.flatten.length<=1099511627000):aB 207 [s.v] W λv w'=>∃r:Sl,v=r.v/\Rel W V [.row r 5 1 (ll.flatten.flatMap aI)] V w':=by
 have H:=aG hV;have hlen:=hs.len;have hpl:=hp.len;have hnext:∀k (hk:k<ll.length),(ll.take (k+1)).flatten=(ll.take k).flatten++ll[k]:=λk hk=>by rw[bK hk,BR];simp only[List.flatten_cons,List.flatten_nil,aZ]
 refine eV Tryz.func207 36 [0,2,3,5,6,8,9,10,11,12,20,25,26,27,28] ?_;refine wk ?_;refine aM.cut 0 (λ_:Unit=>[(0,s.v),(3,iv (ll.flatten.length:Nat))]) (λ_ w'=>Rel W V [] V w') ?_ ?_
 ·refine aP (S:=Nat) al [0,2,6,8,9,10,25,26,27,28] (λk=>[(3,iv ((ll.take k).flatten.length:Nat)),(11,iv k)]) (λk w'=>k<=ll.length/\Rel W V [] V w') (λk _=>ll.length-k) 0 ?_;conv=>whnf
  refine⟨sB,⟨aa,H⟩,?_⟩;clear H;rintro k w⟨hk,H⟩;by_cases hlt:k<ll.length;rotate_left
  ·rw[bJ aa];refine wk ?_;exact⟨(),sB,H⟩
  have mJ:k<hl.length:=aa;obtain⟨q1,q2⟩:=hs.aR (g:=λx:Sl=>x.v) (λ_=>rfl) mJ;have hx:=hp.all k _ _ (bz mJ) (bz hlt);have hxl:=hx.len;have h1:=Ta ll (k+1);have h2:=ax bU (hnext k hlt);rw[ak]at h2;refine wk ?_;refine⟨sB,k+1,⟨ax (λz=>some (bO .i64 z)) aa,rfl,trivial⟩,⟨aa,H⟩,aa⟩
 clear H;rintro _ w H;refine wk ?_;refine(adt H.data (n:=ll.flatten.length) aa).use ?_;rintro v w⟨r,rfl,K⟩;replace H:=Rel.call H K;simp only[aZ]at H;refine wk ?_;refine aP (S:=Nat×Sl) al [0,2,3,5,9,10,11,12,20,25,26] (λk=>[(6,k.2.v),(27,iv k.1)]) (λk w'=>k.1<=ll.length/\Rel W V [.row k.2 5 1 ((ll.take k.1).flatten.flatMap aI)] V w') (λk _=>ll.length-k.1) (0,r) ?_;conv=>whnf
 refine⟨sB,⟨aa,H⟩,?_⟩;clear H;rintro⟨k,r⟩w⟨hk,H⟩;dsimp only at hk H;by_cases hlt:k<ll.length;rotate_left
 ·rw[bJ aa]at H;refine wk ?_;exact⟨r,rfl,H⟩
 have mJ:k<hl.length:=aa;obtain⟨q1,q2⟩:=hs.aR (g:=λx:Sl=>x.v) (λ_=>rfl) mJ;have hx:=hp.all k _ _ (bz mJ) (bz hlt);have h1:=Ta ll (k+1);have h2:=ax bU (hnext k hlt);rw[ak]at h2;refine wk ?_;refine Rel.jO H (i:=0) rfl hx aa ?_;intro rn w H;rw[<-hnext k hlt]at H;refine wk ?_;exact⟨sB,(k+1,rn),sB,⟨aa,H.sx⟩,aa⟩
abbrev sR:=UInt8×Sl
abbrev CV(c:sR):aC:=[bv c.1,c.2.v]
structure zX(V:ad)(h:sR)(c:cu):Prop where
 id:h.1=c.1
 data:aF V h.2 c.2
theorem zX.up(V V':ad)(x:sR)(y:cu)(hs:Sub V V')(h:zX V x y):zX V' x y:=⟨h.id,h.data.up hs⟩
structure ZX(W V:ad)(res:Option (List cu))(v:aj)(w':ad):Prop where
 ex:∃(V':ad) (r:Sl),Sub V V'/\Rel W V [] V' w'/\(match res with
  | none=>v=.tuple #[.slice none 0 0,.bool false]
  | some cs=>v=.tuple #[r.v,.bool true]/\RL CV zX V' r cs)
theorem Vz(o:Option (List α))(O:List α)(x:α):(o.map (x::·)).map (O++·)=o.map ((O++[x])++·):=by cases o<;>simp
theorem aA.iK(h:aF V s l){i:Nat}(hi:i<l.length):Plain s.a/\V.cell? ⟨bW s.a,bM s.a+i,none⟩=some (.int .u8 (at8 l i:Nat)):=by obtain⟨g1,g2⟩:=h.aR (g:=bv) (λ_=>rfl) hi;exact⟨g1,by rw[g2,qU hi]⟩
theorem aiM(hV:Sub V W){s:Sl}{l:ab}(hs:aF V s l)(hl:l.length<=1099511627):aB 220 [s.v] W (ZX W V (kQ l)):=by
 have H:=aG hV;refine eV Tryz.func220 74 [0,2,3,4,5,6,7,16,17,28,58] ?_;refine H.wn ?_;intro w bm H;refine wk ?_;refine Rel.C2 (l:=[83,78,68,49]) Tryz.underlying22 Tryz.underlying5 H rfl ?_;intro V1 w hV1 hm H;refine wk ((C5 H.data (hs.up hV1) hm).use ?_);rintro v w⟨⟨r,rfl,hr⟩,K⟩;replace H:=H.bd K;have MP:([83,78,68,49]:ab).length=4:=rfl;rw[MP]at hr |-;by_cases hp:l.take 4=[83,78,68,49]
 rotate_left
 ·rw[show kQ l=none by rw[kQ,ae hp],bA hp];refine wk ?_;exact⟨V1,⟨none,0,0⟩,hV1,H.sx,rfl⟩
 rw[show kQ l=gM (l.drop 4)by rw[kQ,ag hp],bw hp];replace hr:=hr hp;obtain⟨L,hL⟩:∃L,L=l.drop 4:=⟨_,rfl⟩
 have Dr:L.length<=1099511627:=by rw[hL];simp;omega
 rw[<-hL]at hr |-;replace H:=H.br 279 2;refine wk ?_;refine aP (S:=Sl×ab×Sl×List sR×List cu) al [0,5,16] (λk=>[(4,k.1.v),(6,k.2.2.1.v)]) (λk w'=>aF V1 k.1 k.2.1/\gM L=(gM k.2.1).map (k.2.2.2.2++·)/\k.2.1.length+k.2.2.2.2.length<=1099511627/\Pw zX V1 k.2.2.2.1 k.2.2.2.2/\Rel W V [.row k.2.2.1 279 2 (k.2.2.2.1.flatMap CV)] V1 w') (λk _=>k.2.1.length) (r,L,⟨none,0,0⟩,[],[]) ?_;conv=>whnf
 refine⟨sB,⟨hr,ah,by simpa using Dr,Pw.nil,H⟩,?_⟩;clear H;rintro⟨q,X,ro,os,O⟩w⟨hq,hch,TO,hpw,H⟩;dsimp only at hq hch TO hpw H |-;have cD:=hq.len;have Bd:=hq.cap;have hpl:=hpw.len;have kH:=xx X;have c0:=λh=>hq.iK (i:=0) h;have c1:=λh=>hq.iK (i:=1) h;have c2:=λh=>hq.iK (i:=2) h;have ac3:X.length=1/\at8 X 0=0->gM L=some O:=λh=>by rw[hch,kH,ag h];simp
 have AJ:¬(X.length=1/\at8 X 0=0)->(X.length<3\/at8 X 0<65\/90<at8 X 0)->gM L=none:=λh h2=>by rw[hch,kH,ae h,ag h2];rfl
 by_cases h0:X.length=0
 ·rw[AJ aa aa];refine wk ?_;exact⟨V1,⟨none,0,0⟩,hV1,H.sx,rfl⟩
 obtain⟨p0,d0⟩:=c0 aa;have mF:at8 X 0<256:=dm _;by_cases h1:X.length=1/\at8 X 0=0
 ·obtain⟨Tl,LZ⟩:=h1;rw[ac3 ⟨Tl,LZ⟩];rw[LZ]at d0;refine wk ?_;obtain⟨V2,hV2,H,hro⟩:=Rel.aJ H;exact⟨V2,ro,hV1.trans hV2,H.sx,rfl,os,hro,hpw.up zX.up hV2⟩
 have AJ:=AJ h1;by_cases h3:X.length<3
 ·rw[AJ aa];by_cases dO:X.length=1
  all_goals
   refine wk ?_;exact⟨V1,⟨none,0,0⟩,hV1,H.sx,rfl⟩
 by_cases h65:at8 X 0<65
 ·rw[AJ aa];refine wk ?_;exact⟨V1,⟨none,0,0⟩,hV1,H.sx,rfl⟩
 by_cases h90:90<at8 X 0
 ·rw[AJ aa];refine wk ?_;exact⟨V1,⟨none,0,0⟩,hV1,H.sx,rfl⟩
 obtain⟨_,d1⟩:=c1 aa;obtain⟨_,d2⟩:=c2 aa;have Tk:at8 X 1<256:=dm _;have Tn:at8 X 2<256:=dm _;have lK:cI .or .i64 ((at8 X 1:Int)*256) (at8 X 2:Int)=((dJ X:Nat):Int):=yU Tk Tn;have hcl:dJ X<=65535:=by unfold dJ;omega
 refine wk ?_;refine dV 9 [] [0,1,2,3,4,5,6,7,8,9,10] H ?_;intro w H;refine wk ?_;rw[sJ];refine wk ?_;rw[lK];refine wk ?_;by_cases hn:X.length-3<dJ X
 ·have:gM L=none:=by rw[hch,kH,ae h1,ae aa,ag hn];rfl
  rw[this];refine wk ?_;exact⟨V1,⟨none,0,0⟩,hV1,H.sx,rfl⟩
 have AV:gM L=(gM (X.drop (3+dJ X))).map ((O++[(X[0]?.getD 0,(X.drop 3).take (dJ X))])++·):=by rw[hch,kH,ae h1,ae aa,ae hn,Vz]
 have hs1:=hq.sub (n:=1) (λ_=>rfl) (a:=3) (b:=3+dJ X) aa aa;have dG:=hq.sub (n:=1) (λ_=>rfl) (a:=3+dJ X) (b:=q.len) aa aa;have hd3:(X.take (3+dJ X)).drop 3=(X.drop 3).take (dJ X):=by rw[u4,WZ]
 rw[hd3]at hs1;rw[cD,fA]at dG;refine wk ?_;refine dV 12 [] [0,1,2,3,4,5,6,7,8,9,10,11] H ?_;intro w H;refine H.wg ?_;intro _ w H;refine Rel.bF (f:=CV) (l:=os) (x:=(X[0]?.getD 0,⟨bo q.a 3 q.cap 1,3+dJ X-3,q.cap-3⟩)) rfl (λ_=>rfl) (bc.1 rfl) H (by simp;omega) aa ?_;intro rn w H;refine wk ?_;refine⟨sB,(⟨bo q.a (3+dJ X) q.cap 1,q.len-(3+dJ X),q.cap-(3+dJ X)⟩,X.drop (3+dJ X),rn,os++[(X[0]?.getD 0,⟨bo q.a 3 q.cap 1,3+dJ X-3,q.cap-3⟩)],O++[(X[0]?.getD 0,(X.drop 3).take (dJ X))]),sB,⟨?_,AV,by simp;omega,hpw.snoc ⟨rfl,hs1⟩,H.sx⟩,by simp;omega⟩;rw[<-cD]at dG;exact dG
abbrev sQ:=Int×Sl
abbrev KQ(c:sQ):aC:=[iv c.1,c.2.v]
structure xf(V:ad)(h:sQ)(c:cu):Prop where
 id:h.1=c.1.toNat
 data:aF V h.2 c.2
theorem xf.up(V V':ad)(x:sQ)(y:cu)(hs:Sub V V')(h:xf V x y):xf V' x y:=⟨h.id,h.data.up hs⟩
theorem aaV(l:ab)(a i:Nat):at8 (l.drop a) i=at8 l (a+i):=by simp[at8]
theorem abz(h:X.length<4)(h0:¬at8 X 0=0):gM X=none:=by
 rw[xx,ae aa];split
 ·rfl
 split
 ·rfl
 rw[show X.drop (3+dJ X)=[]from fc aa,GL];rfl
theorem aby(h:X.length<4+dJ X)(h0:¬at8 X 0=0):gM X=none:=by
 rw[xx,ae aa];split
 ·rfl
 split
 ·rfl
 rw[show X.drop (3+dJ X)=[]from fc aa,GL];rfl
theorem abA(h0:at8 X 0=0):gM X=if X.length=1 then some []else none:=by
 rw[xx];by_cases h1:X.length=1
 ·rw[ag ⟨h1,h0⟩,ag h1]
 rw[ae aa,ae h1,ag aa]
structure ZW(W V:ad)(res:Option (List cu))(v:aj)(w':ad):Prop where
 ex:∃(V':ad) (r:Sl),Sub V V'/\Rel W V [] V' w'/\(match res with
  | none=>v=.tuple #[r.v,.bool false]
  | some cs=>v=.tuple #[r.v,.bool true]/\RL KQ xf V' r cs)
theorem akm(hV:Sub V W){s:Sl}{l:ab}(hs:aF V s l)(hl:l.length<=1099511627):aB 75 [s.v] W (ZW W V (kQ l)):=by
 have H:=aG hV;have hlen:=hs.len;have og:=hs.cap;refine eV Tryz.func75 84 [0,2,3,4,5,6,15,20,34,55] ?_;by_cases h5:l.length<5
 ·have:kQ l=none:=by
   unfold kQ;split
   ·rename_i h;have:=ax bU h;simp at this;rw[fc aa,GL]
   rfl
  rw[this];refine wk ?_;exact⟨V,⟨none,0,0⟩,aS _,H.sx,rfl⟩
 have hsub:=hs.sub (n:=1) (λ_=>rfl) (a:=0) (b:=4) aa aa;rw[lj]at hsub;have hc4:=(hsub.up hV).cells;rw[iu]at hc4;have hl4:4-0=(l.take 4).length:=by simp;omega
 refine wk ?_;refine qX (λhp=>?_) (λhp=>?_)
 ·rw[show kQ l=none by rw[kQ,ae hp]];refine wk ?_;exact⟨V,⟨none,0,0⟩,aS _,H.sx,rfl⟩
 rw[show kQ l=gM (l.drop 4)by rw[kQ,ag hp]];replace H:=H.br 80 2;refine wk ?_;refine aP (S:=Nat×Sl×List sQ×List cu) al [0,15] (λk=>[(4,k.2.1.v),(5,iv k.1)]) (λk w'=>k.1<l.length/\gM (l.drop 4)=(gM (l.drop k.1)).map (k.2.2.2++·)/\k.2.2.2.length<=k.1/\∃V1,Sub V V1/\Pw xf V1 k.2.2.1 k.2.2.2/\Rel W V [.row k.2.1 80 2 (k.2.2.1.flatMap KQ)] V1 w') (λk _=>l.length-k.1) (4,⟨none,0,0⟩,[],[]) ?_;conv=>whnf
 refine⟨sB,⟨aa,ah,ah,V,aS _,Pw.nil,H⟩,?_⟩;clear H;rintro⟨a,ro,os,O⟩w⟨ha,hch,TF,V1,hV1,hpw,H⟩;dsimp only at ha hch TF hpw H |-;have hpl:=hpw.len;have hs1:=hs.up hV1;obtain⟨X,hX⟩:∃X,X=l.drop a:=⟨_,rfl⟩
 have TO:X.length=l.length-a:=by rw[hX,aU]
 have hat:∀i,at8 X i=at8 l (a+i):=λi=>by rw[hX,aaV]
 have e0:=hat 0;have e1:=hat 1;have e2:=hat 2;rw[ln]at e0;rw[<-hX]at hch;have amF:at8 X 0<256:=dm _;have Tk:at8 X 1<256:=dm _;have Tn:at8 X 2<256:=dm _;obtain⟨p0,d0⟩:=hs1.iK (i:=a) ha;rw[<-e0]at d0;by_cases hz:at8 X 0=0
 ·have HF:=abA hz;rw[hz]at d0;by_cases h1:X.length=1
  ·rw[ag h1]at HF;have:gM (l.drop 4)=some O:=by rw[hch,HF];simp
   rw[this];refine wk ?_;obtain⟨V2,hV2,H,hro⟩:=Rel.aJ H;refine⟨V2,ro,hV1.trans hV2,H.sx,?_,os,hro,hpw.up xf.up hV2⟩;have hx:((a:Int)=(s.len:Int)-1):=aa;simp only[bw hx]
  rw[ae h1]at HF;have:gM (l.drop 4)=none:=by rw[hch,HF];rfl
  rw[this];refine wk ?_;refine⟨V1,ro,hV1,H.sx,?_⟩;have hx:¬((a:Int)=(s.len:Int)-1):=aa;simp only[bA hx]
 have kH:=xx X;rw[ae aa]at kH;refine wk ((gd (at8 X 0:Nat) 65 90 w).use ?_);rintro q w'⟨rfl,rfl⟩;by_cases hin:65<=at8 X 0/\at8 X 0<=90;rotate_left
 ·have:gM (l.drop 4)=none:=by rw[hch,kH,ag aa];rfl
  rw[this];refine wk ?_;exact⟨V1,⟨none,0,0⟩,hV1,H.sx,rfl⟩
 by_cases h4:X.length<4
 ·have:gM (l.drop 4)=none:=by rw[hch,abz h4 hz];rfl
  rw[this];refine wk ?_;exact⟨V1,⟨none,0,0⟩,hV1,H.sx,rfl⟩
 obtain⟨_,d1⟩:=hs1.iK (i:=a+1) aa;obtain⟨_,d2⟩:=hs1.iK (i:=a+2) aa;rw[<-e1]at d1;rw[<-e2]at d2;have ia1:((a:Int)+1).toNat=a+1:=aa;have ia2:((a:Int)+2).toNat=a+2:=aa;have hcd:dJ X=256*at8 X 1+at8 X 2:=rfl;refine wk ?_;refine dV 8 [] [0,1,2,3,4,5,6,7,8,9,10,11,12,13,14] H ?_;intro w H;refine wk ?_;by_cases MZ:X.length<4+dJ X
 ·have:gM (l.drop 4)=none:=by rw[hch,aby MZ hz];rfl
  rw[this];refine wk ?_;exact⟨V1,⟨none,0,0⟩,hV1,H.sx,rfl⟩
 have AV:gM (l.drop 4)=(gM (l.drop (a+3+dJ X))).map ((O++[(X[0]?.getD 0,(X.drop 3).take (dJ X))])++·):=by rw[hch,kH,ae aa,ae aa,Vz];congr 2;rw[hX,gK];congr 1;omega
 have hsub2:=hs1.sub (n:=1) (λ_=>rfl) (a:=a+3) (b:=a+3+dJ X) aa aa;have nr:(l.take (a+3+dJ X)).drop (a+3)=(X.drop 3).take (dJ X):=by rw[u4,WZ,hX,gK]
 rw[nr]at hsub2;refine wk ?_;refine dV 11 [14] [0,1,2,3,4,5,6,7,8,9,10,11,12,13,14,15,16,17,18] H ?_;intro w H;refine wk ?_;refine(C3 (x:=⟨bo s.a (a+3) s.cap 1,a+3+dJ X-(a+3),s.cap-(a+3)⟩) H.data hsub2 (by simp only[bg,aU];omega)).use ?_;rintro q w⟨r1,rfl,K⟩;replace H:=H.cq K;obtain⟨V2,hV2,H,hr1⟩:=Rel.aJ H;refine H.wg ?_;intro _ w H;refine Rel.bF (f:=KQ) (l:=os) (x:=(((at8 X 0:Nat):Int),r1)) rfl (λ_=>rfl) (bc.1 rfl) H (by simp;omega) aa ?_;intro rn w H;refine wk ?_;refine⟨sB,(a+3+dJ X,rn,os++[(((at8 X 0:Nat):Int),r1)],O++[(X[0]?.getD 0,(X.drop 3).take (dJ X))]),sB,⟨aa,AV,by simp;omega,V2,hV1.trans hV2,(hpw.up xf.up hV2).snoc ⟨rfl,hr1⟩,H.sx⟩,aa⟩
abbrev fT(n:Nat):aC:=[iv (n:Int)]
abbrev fmtC(rate ch coding:Nat):aC:=[iv rate,iv ch,iv coding]
theorem oP(hV:Sub V W)(rate ch coding:Nat):aB 223 [.agg (fmtC rate ch coding).toArray] W λv w'=>v=iv ((coding%2+1:Nat):Int)/\Rel W V [] V w':=by have H:=aG hV;refine eV Tryz.func223 7 [0,1,2] ?_;refine H.wn ?_;intro w b1 H;refine wk ?_;exact H.sx
theorem sC(w:Bool)(l:ab):∀r∈cK w l,r<bY w:=by
 intro r hr;have hb:∀i,at8 l i<256:=λi=>dm _;unfold cK at hr;unfold bY;split at hr
 ·rename_i hw;obtain⟨k,_,rfl⟩:=cJ.1 hr;rw[ag hw];have:=hb (2*k);have:=hb (2*k+1);omega
 rename_i hw;obtain⟨k,_,rfl⟩:=cJ.1 hr;rw[ae hw];exact hb k
theorem Kc{df:Bool}{ch full:Nat}(hf:0<full):∀(n:Nat) (l:au),l.length=n->(∀r∈l,r<full)->∀r∈dh df ch full l,r<full
 | 0,l,hn,_=>by rw[dt hn];simp[alC]
 | n+1,l,hn,h=>by
  obtain⟨i,x,rfl⟩:∃i x,l=i++[x]:=by
   rcases uZ l with rfl|⟨i,x,rfl⟩
   ·simp at hn
   exact⟨i,x,ah⟩
  intro r hr;rw[Kd]at hr;rcases List.mem_append.1 hr with hr|hr
  ·exact Kc hf n i (by simpa using hn) (λy hy=>h y (by simp[hy])) r hr
  rw[cz]at hr;rw[hr];split
  ·exact Nat.mod_lt _ hf
  exact h x ah
theorem tR{l:au}(h:∀r∈l,r<full)(hf:0<full)(i:Nat):(dh df ch full l)[i]?.getD 0<full:=by
 by_cases hi:i<(dh df ch full l).length
 ·rw[bz hi];exact Kc hf _ l rfl h _ (bS hi)
 rw[List.getElem?_eq_none aa];exact hf
theorem acf(hV:Sub V W){rate ch coding:Nat}(hc:coding<4)(hch:1<=ch/\ch<=2){s:Sl}{l:ab}(hs:aF V s l)(hl:l.length<=1000000)(hev:aH coding=true->l.length%2=0) :
  aB 224 [.agg (fmtC rate ch coding).toArray,s.v] W λv w'=>∃r:Sl,v=r.v/\Rel W V [.row r 3 1 ((iT l coding ch).flatMap bN)] V w':=by
 have H:=aG hV;have hlen:=hs.len;refine eV Tryz.func224 77 [0,1,2,4,5,6,7,8,9,10,14,26,48,61,67] ?_;refine H.wn ?_;intro w b2 H;replace H:=H.br 3 1;replace H:=H.br 3 1;refine wk ?_;refine aP (S:=Nat×Sl×Sl) al [0,1,2,4] (λk=>[(5,k.2.1.v),(6,k.2.2.v),(7,iv ((k.1*(coding%2+1):Nat):Int))]) (λk w'=>k.1<=(cK (aH coding) l).length/\Rel W V [.row k.2.2 3 1 (((dh (cj coding) ch (bY (aH coding)) ((cK (aH coding) l).take k.1)).map (ep (aH coding))).flatMap bN),.row k.2.1 3 1 (((dh (cj coding) ch (bY (aH coding)) ((cK (aH coding) l).take k.1))).flatMap fT),.ay b2 (fmtC rate ch coding) 171] V w') (λk _=>(cK (aH coding) l).length-k.1) (0,⟨none,0,0⟩,⟨none,0,0⟩) ?_;conv=>whnf
 refine⟨⟨rfl,rfl,?_,trivial⟩,⟨aa,H⟩,?_⟩
 ·simp;rfl
 clear H;rintro⟨k,r5,r6⟩w⟨hk,H⟩;dsimp only at hk H |-;have hrl:=sA (aH coding) l;have jl:(dh (cj coding) ch (bY (aH coding)) ((cK (aH coding) l).take k)).length=k:=by rw[oO,bg];omega
 have e9:∀i:Nat,(dh (cj coding) ch (bY (aH coding)) ((cK (aH coding) l).take k))[i]?.getD 0<bY (aH coding):=λi=>tR (λr hr=>sC _ _ r (nG hr)) (by unfold bY;split<;>omega) i;by_cases hlt:k<(cK (aH coding) l).length;rotate_left
 ·rw[bJ aa]at H;have hkv:¬((k*(coding%2+1):Nat):Int)<(s.len:Int):=by
   obtain rfl|rfl|rfl|rfl:coding=0\/coding=1\/coding=2\/coding=3:=aa
   ·have:=hrl.trans (ae (by decide:¬aH 0=true));simp only[Nat.reduceMod];omega
   ·have:=hrl.trans (ag (by decide:aH 1=true));have:=hev ai;simp only[Nat.reduceMod];omega
   ·have:=hrl.trans (ae (by decide:¬aH 2=true));simp only[Nat.reduceMod];omega
   have:=hrl.trans (ag (by decide:aH 3=true));have:=hev ai;simp only[Nat.reduceMod];omega
  refine wk ?_;exact⟨r6,rfl,H.sx⟩
 have cf:=λr h=>Cp (df:=cj coding) (ch:=ch) (full:=bY (aH coding)) (l:=cK (aH coding) l) (k:=k) (r:=r) h;obtain⟨U,hU⟩:∃U,U=dh (cj coding) ch (bY (aH coding)) ((cK (aH coding) l).take k):=⟨_,rfl⟩
 rw[<-hU]at jl H;simp only[<-hU]at cf e9;have qi:=(H.cV (i:=1) rfl (λ_=>rfl) ai).len;have MM:=(H.cV (i:=0) rfl (λ_=>rfl) ai).len;rw[aW]at MM;have f256:bY false=256:=rfl;have f65:bY true=65536:=rfl;obtain rfl|rfl|rfl|rfl:coding=0\/coding=1\/coding=2\/coding=3:=aa
 ·have hw:aH 0=false:=rfl;have hd:cj 0=false:=rfl;simp only[hw,hd]at hrl cf e9 H hk hlt |-;rw[ae ah]at hrl;have cf:=cf _ (B1 aa);rw[ae ah]at cf;obtain⟨p0,d0⟩:=hs.iK (i:=k) aa;have hand:cI .and .i64 0 2=0:=by decide +kernel
  have mF:at8 l k<256:=dm _;have hv:ep false (at8 l k)=((at8 l k:Int)-128)*256:=rfl;simp only[W0,dR,wK];refine wk (H.us (oP H.data rate ch 0) ?_);intro w H;refine H.wg ?_;intro _ w H;refine Rel.eH (f:=fT) (l:=U) (x:=at8 l k) rfl (λ_=>rfl) (bc.1 rfl) H (by simp;omega) aa ?_;intro iS w H;refine H.wg ?_;intro _ w H;refine Rel.bF (f:=bN) (l:=U.map (ep false)) (x:=((at8 l k:Int)-128)*256) rfl (λ_=>rfl) (bc.1 rfl) H (by simp only[aW];omega) (by simp only[aW];omega) ?_;intro mi w H;refine wk (H.us (oP H.data rate ch 0) ?_);intro w H;refine wk ?_;refine⟨sB,(k+1,iS,mi),⟨rfl,rfl,ax (λz=>some (bO .i64 z)) (by simp only[Nat.reduceMod,Nat.reduceAdd];omega),trivial⟩,⟨by dsimp only;omega,?_⟩,by dsimp only;omega⟩;dsimp only;have dC:=cf;try simp only[f256]at dC
  try simp only[f256]
  rw[dC,dU,fO,lk,hv];exact H.sx
 ·have hw:aH 1=true:=rfl;have hd:cj 1=false:=rfl;simp only[hw,hd]at hrl cf e9 H hk hlt |-;rw[ag ah]at hrl;have hl2:=hev rfl;obtain⟨u,k9⟩:∃u,u=256*at8 l (k*2+1)+at8 l (k*2):=⟨_,rfl⟩
  have cf:=cf u (by rw[B2 aa,lP 2 k,k9,sq]);obtain⟨p0,d0⟩:=hs.iK (i:=k*2) aa;obtain⟨p1,d1⟩:=hs.iK (i:=k*2+1) aa;have hand:cI .and .i64 1 2=(if 1=3 then 2 else 0):=by decide +kernel
  have mF:at8 l (k*2)<256:=dm _;have xP:at8 l (k*2+1)<256:=dm _;have uI:u<65536:=aa;simp only[Nat.reduceMod,Nat.reduceAdd];rw[ae ah]at cf;refine wk (H.us (oP H.data rate ch 1) ?_);intro w H;refine wk ?_;rw[show(((k*2:Nat):Int)+1)=((k*2+1:Nat):Int)by omega];refine wk ?_;rw[sJ];refine H.wg ?_;intro _ w H;rw[IK xP mF,<-k9];try rw[IK xP mF,<-k9]at H
  refine wk ?_;refine wk ?_;refine Rel.eH (f:=fT) (l:=U) (x:=u) rfl (λ_=>rfl) (bc.1 rfl) H (by simp;omega) aa ?_;intro iS w H;refine wk ?_;by_cases h32:32768<=u
  ·have hv:ep true u=(u:Int)-65536:=ag h32;refine H.wg ?_;intro _ w H;refine Rel.bF (f:=bN) (l:=U.map (ep true)) (x:=(u:Int)-65536) rfl (λ_=>rfl) (bc.1 rfl) H (by simp only[aW];omega) (by simp only[aW];omega) ?_;intro mi w H;refine wk (H.us (oP H.data rate ch 1) ?_);intro w H;refine wk ?_;refine⟨sB,(k+1,iS,mi),⟨rfl,rfl,ax (λz=>some (bO .i64 z)) (by simp only[Nat.reduceMod,Nat.reduceAdd];omega),trivial⟩,⟨by dsimp only;omega,?_⟩,by dsimp only;omega⟩;dsimp only;have dC:=cf;try simp only[f65]at dC
   try simp only[f65]
   rw[dC,dU,fO,lk,hv];exact H.sx
  have hv:ep true u=(u:Int):=ae h32;refine H.wg ?_;intro _ w H;refine Rel.bF (f:=bN) (l:=U.map (ep true)) (x:=(u:Int)) rfl (λ_=>rfl) (bc.1 rfl) H (by simp only[aW];omega) (by simp only[aW];omega) ?_;intro mi w H;refine wk (H.us (oP H.data rate ch 1) ?_);intro w H;refine wk ?_;refine⟨sB,(k+1,iS,mi),⟨rfl,rfl,ax (λz=>some (bO .i64 z)) (by simp only[Nat.reduceMod,Nat.reduceAdd];omega),trivial⟩,⟨by dsimp only;omega,?_⟩,by dsimp only;omega⟩;dsimp only;have dC:=cf;try simp only[f65]at dC
  try simp only[f65]
  rw[dC,dU,fO,lk,hv];exact H.sx
 ·have hw:aH 2=false:=rfl;have hd:cj 2=true:=rfl;simp only[hw,hd]at hrl cf e9 H hk hlt |-;rw[ae ah]at hrl;have cf:=cf _ (B1 aa);rw[f256]at cf;obtain⟨p0,d0⟩:=hs.iK (i:=k) aa;have hand:cI .and .i64 2 2=2:=by decide +kernel
  have mF:at8 l k<256:=dm _;simp only[Nat.reduceMod,dR,wK];refine wk (H.us (oP H.data rate ch 2) ?_);intro w H;refine wk ?_;by_cases hdf:ch<=k
  ·rw[ag (by simp[hdf])]at cf;have S5:=H.cV (i:=1) rfl (λ_=>rfl) ai;obtain⟨q0,e0⟩:=S5.aR (g:=λn:Nat=>iv (n:Int)) (λ_=>rfl) (i:=k-ch) aa;have ej:((r5.len:Int)-(ch:Int))=((k-ch:Nat):Int):=aa;obtain⟨u,hu⟩:∃u,u=(at8 l k+U[k-ch]?.getD 0)%256:=⟨_,rfl⟩
   have re:=e9 (k-ch);simp only[f256]at re;rw[<-hu]at cf;have fJ:U[k-ch]?.getD 0=U[k-ch]:=by rw[bz aa];rfl
   rw[fJ]at re hu;refine wk ?_;have ez:(((at8 l k:Nat):Int)+((U[k-ch]:Nat):Int))%256=((u:Nat):Int):=aa;rw[ej];refine H.wg ?_;intro _ w H;try rw[ez]at H
   rw[ez];have uI:u<256:=aa;have hv:ep false u=((u:Int)-128)*256:=rfl;refine wk ?_;refine Rel.eH (f:=fT) (l:=U) (x:=u) rfl (λ_=>rfl) (bc.1 rfl) H (by simp;omega) aa ?_;intro iS w H;refine H.wg ?_;intro _ w H;refine Rel.bF (f:=bN) (l:=U.map (ep false)) (x:=((u:Int)-128)*256) rfl (λ_=>rfl) (bc.1 rfl) H (by simp only[aW];omega) (by simp only[aW];omega) ?_;intro mi w H;refine wk (H.us (oP H.data rate ch 2) ?_);intro w H;refine wk ?_;refine⟨sB,(k+1,iS,mi),⟨rfl,rfl,ax (λz=>some (bO .i64 z)) (by simp only[Nat.reduceMod,Nat.reduceAdd];omega),trivial⟩,⟨by dsimp only;omega,?_⟩,by dsimp only;omega⟩;dsimp only;have dC:=cf;try simp only[f256,f65]at dC
   try simp only[f256]
   rw[dC,dU,fO,lk,hv];exact H.sx
  rw[ae (λh=>hdf h.2)]at cf;have hv:ep false (at8 l k)=((at8 l k:Int)-128)*256:=rfl;refine H.wg ?_;intro _ w H;refine wk ?_;refine Rel.eH (f:=fT) (l:=U) (x:=at8 l k) rfl (λ_=>rfl) (bc.1 rfl) H (by simp;omega) aa ?_;intro iS w H;refine H.wg ?_;intro _ w H;refine Rel.bF (f:=bN) (l:=U.map (ep false)) (x:=((at8 l k:Int)-128)*256) rfl (λ_=>rfl) (bc.1 rfl) H (by simp only[aW];omega) (by simp only[aW];omega) ?_;intro mi w H;refine wk (H.us (oP H.data rate ch 2) ?_);intro w H;refine wk ?_;refine⟨sB,(k+1,iS,mi),⟨rfl,rfl,ax (λz=>some (bO .i64 z)) (by simp only[Nat.reduceMod,Nat.reduceAdd];omega),trivial⟩,⟨by dsimp only;omega,?_⟩,by dsimp only;omega⟩;dsimp only;have dC:=cf;try simp only[f256,f65]at dC
  try simp only[f256]
  rw[dC,dU,fO,lk,hv];exact H.sx
 have hw:aH 3=true:=rfl;have hd:cj 3=true:=rfl;simp only[hw,hd]at hrl cf e9 H hk hlt |-;rw[ag ah]at hrl;have hl2:=hev rfl;obtain⟨u,k9⟩:∃u,u=256*at8 l (k*2+1)+at8 l (k*2):=⟨_,rfl⟩
 have cf:=cf u (by rw[B2 aa,lP 2 k,k9,sq]);obtain⟨p0,d0⟩:=hs.iK (i:=k*2) aa;obtain⟨p1,d1⟩:=hs.iK (i:=k*2+1) aa;have hand:cI .and .i64 3 2=(if 3=3 then 2 else 0):=by decide +kernel
 have mF:at8 l (k*2)<256:=dm _;have xP:at8 l (k*2+1)<256:=dm _;have uI:u<65536:=aa;simp only[Nat.reduceMod,Nat.reduceAdd];rw[f65]at cf;refine wk (H.us (oP H.data rate ch 3) ?_);intro w H;refine wk ?_;rw[show(((k*2:Nat):Int)+1)=((k*2+1:Nat):Int)by omega];refine wk ?_;rw[sJ];refine wk ?_;rw[IK xP mF,<-k9];try rw[IK xP mF,<-k9]at H
 refine wk ?_;by_cases hdf:ch<=k
 ·rw[ag (by simp[hdf])]at cf;obtain⟨y,hy⟩:∃y,y=u:=⟨_,rfl⟩
  rw[<-hy]at uI cf |-;clear hy k9 u;have S5:=H.cV (i:=1) rfl (λ_=>rfl) ai;obtain⟨q0,e0⟩:=S5.aR (g:=λn:Nat=>iv (n:Int)) (λ_=>rfl) (i:=k-ch) aa;have ej:((r5.len:Int)-(ch:Int))=((k-ch:Nat):Int):=aa;obtain⟨u,hu⟩:∃u,u=(y+U[k-ch]?.getD 0)%65536:=⟨_,rfl⟩
  have re:=e9 (k-ch);simp only[f65]at re;rw[<-hu]at cf;have fJ:U[k-ch]?.getD 0=U[k-ch]:=by rw[bz aa];rfl
  rw[fJ]at re hu;refine wk ?_;have ez:(((y:Nat):Int)+((U[k-ch]:Nat):Int))%65536=((u:Nat):Int):=aa;rw[ej];refine H.wg ?_;intro _ w H;try rw[ez]at H
  rw[ez];have uI:u<65536:=aa;refine wk ?_;refine Rel.eH (f:=fT) (l:=U) (x:=u) rfl (λ_=>rfl) (bc.1 rfl) H (by simp;omega) aa ?_;intro iS w H;refine wk ?_;by_cases h32:32768<=u
  ·have hv:ep true u=(u:Int)-65536:=ag h32;refine H.wg ?_;intro _ w H;refine Rel.bF (f:=bN) (l:=U.map (ep true)) (x:=(u:Int)-65536) rfl (λ_=>rfl) (bc.1 rfl) H (by simp only[aW];omega) (by simp only[aW];omega) ?_;intro mi w H;refine wk (H.us (oP H.data rate ch 3) ?_);intro w H;refine wk ?_;refine⟨sB,(k+1,iS,mi),⟨rfl,rfl,ax (λz=>some (bO .i64 z)) (by simp only[Nat.reduceMod,Nat.reduceAdd];omega),trivial⟩,⟨by dsimp only;omega,?_⟩,by dsimp only;omega⟩;dsimp only;have dC:=cf;try simp only[f256,f65]at dC
   try simp only[f65]
   rw[dC,dU,fO,lk,hv];exact H.sx
  have hv:ep true u=(u:Int):=ae h32;refine H.wg ?_;intro _ w H;refine Rel.bF (f:=bN) (l:=U.map (ep true)) (x:=(u:Int)) rfl (λ_=>rfl) (bc.1 rfl) H (by simp only[aW];omega) (by simp only[aW];omega) ?_;intro mi w H;refine wk (H.us (oP H.data rate ch 3) ?_);intro w H;refine wk ?_;refine⟨sB,(k+1,iS,mi),⟨rfl,rfl,ax (λz=>some (bO .i64 z)) (by simp only[Nat.reduceMod,Nat.reduceAdd];omega),trivial⟩,⟨by dsimp only;omega,?_⟩,by dsimp only;omega⟩;dsimp only;have dC:=cf;try simp only[f256,f65]at dC
  try simp only[f65]
  rw[dC,dU,fO,lk,hv];exact H.sx
 rw[ae (λh=>hdf h.2)]at cf;refine H.wg ?_;intro _ w H;refine wk ?_;refine Rel.eH (f:=fT) (l:=U) (x:=u) rfl (λ_=>rfl) (bc.1 rfl) H (by simp;omega) aa ?_;intro iS w H;refine wk ?_;by_cases h32:32768<=u
 ·have hv:ep true u=(u:Int)-65536:=ag h32;refine H.wg ?_;intro _ w H;refine Rel.bF (f:=bN) (l:=U.map (ep true)) (x:=(u:Int)-65536) rfl (λ_=>rfl) (bc.1 rfl) H (by simp only[aW];omega) (by simp only[aW];omega) ?_;intro mi w H;refine wk (H.us (oP H.data rate ch 3) ?_);intro w H;refine wk ?_;refine⟨sB,(k+1,iS,mi),⟨rfl,rfl,ax (λz=>some (bO .i64 z)) (by simp only[Nat.reduceMod,Nat.reduceAdd];omega),trivial⟩,⟨by dsimp only;omega,?_⟩,by dsimp only;omega⟩;dsimp only;have dC:=cf;try simp only[f256,f65]at dC
  try simp only[f65]
  rw[dC,dU,fO,lk,hv];exact H.sx
 have hv:ep true u=(u:Int):=ae h32;refine H.wg ?_;intro _ w H;refine Rel.bF (f:=bN) (l:=U.map (ep true)) (x:=(u:Int)) rfl (λ_=>rfl) (bc.1 rfl) H (by simp only[aW];omega) (by simp only[aW];omega) ?_;intro mi w H;refine wk (H.us (oP H.data rate ch 3) ?_);intro w H;refine wk ?_;refine⟨sB,(k+1,iS,mi),⟨rfl,rfl,ax (λz=>some (bO .i64 z)) (by simp only[Nat.reduceMod,Nat.reduceAdd];omega),trivial⟩,⟨by dsimp only;omega,?_⟩,by dsimp only;omega⟩;dsimp only;have dC:=cf;try simp only[f256,f65]at dC
 try simp only[f65]
 rw[dC,dU,fO,lk,hv];exact H.sx
theorem JB{v:aj}:∀ {c:aC} {o:Nat} {k:aC->Prop},o<c.length->k (c.set o v)->gS c o [v] k
 | [],o,k,h,_=>by simp at h
 | u::c,0,k,_,hk=>by show gS c 0 [] λr=>k (v::r);cases c<;>exact hk
 | u::c,o+1,k,h,hk=>by show gS c o [v] λr=>k (u::r);exact JB (by simpa using h) hk
theorem Rel.zu(H:Rel w0 V0 own V w){i:Nat}{s:Sl}{e:TypeId}{xs:aC}(hi:own[i]?=some (.row s e 1 xs))(j:Nat)(hj:j<s.len){b o:Nat}(hb:b=bW s.a)(ho:o=bM s.a+j){v:aj}{k:ad->Prop}
  (hk:∀w',Rel w0 V0 (own.set i (.row s e 1 (xs.set j v))) V w'->k w'):∃c t',oR w b c t'/\gS c o [v] λc'=>∀w',mZ w b c' t' w'->k w':=by
 have hr:=H.rowAt hi;rcases hr.at_ with⟨_,h2,_⟩|⟨b0,cur,h1,h2,h3,h4,h5,h6⟩
 ·omega
 rw[h1]at hb ho;simp only[bW,bM,dR]at hb ho;subst hb ho;have hbl:oR w b cur.toList e:=h2;refine⟨cur.toList,e,hbl,JB (by rw[y9,h5];omega) λw' hu=>hk w' ?_⟩;have hu':=hu;obtain⟨fz,cs,v7,rfl⟩:=hu.wd;refine H.put hi rfl rfl rfl ah (λk _ hk=>hu'.other λe=>hk (by rw[e];simp[aT.at_,h1])) ⟨by rw[List.length_set,hr.len],.inr ⟨b,(cur.toList.set o v).toArray,h1,hu'.row hbl ah,h3,h4,by simp[h5],?_⟩⟩ λk hk=>.inl hk;rw[<-h6];simp[List.take_set]
theorem Ik(l:List Int)(j:Nat)(x:Int):(l.flatMap bN).set j (iv x)=(l.set j x).flatMap bN:=by
 have e:∀l:List Int,l.flatMap bN=l.map iv:=λl=>by induction l with|nil=>rfl|cons _ _ ih=>simp[bD,ih]
 rw[e,e,List.map_set]
theorem Il(l:au):l.flatMap fT=(l.map λn:Nat=>(n:Int)).flatMap bN:=by
 induction l with
 | nil=>rfl
 | cons _ _ ih=>simp[bD,ih]
def mix(w:Bool)(U:au)(k:Nat):List Int:=(U.map (ep w)).take k++(U.map λn:Nat=>(n:Int)).drop k
theorem uR(w:Bool)(U:au)(k:Nat):(mix w U k).length=U.length:=by simp[mix];omega
theorem EE{w:Bool}(h:k<U.length)(h':k<(mix w U k).length):(mix w U k)[k]=(U[k]:Int):=by
 have e:(mix w U k)[k]?=some (U[k]:Int):=by unfold mix;rw[BQ (by simp;omega),E2,ib];rw[show k+(k-(List.take k (List.map (ep w) U)).length)=k by rw[bg,aW];omega,bz h];rfl
 exact(dH.1 e).2
theorem EF{w:Bool}(h:k<U.length):(mix w U k).set k (ep w U[k])=mix w U (k+1):=by
 unfold mix;rw[List.set_append_right _ _ (by simp;omega)];have:k-((U.map (ep w)).take k).length=0:=by simp;omega
 rw[this,dk (by simpa using h)];simp only[bH];rw[bK (by simpa using h)];simp
theorem VF{w:Bool}(h:k<U.length)(e:ep w U[k]=(U[k]:Int)):mix w U k=mix w U (k+1):=by rw[<-EF h,e];have:=EE (w:=w) h (by rw[uR];exact h);rw[<-this,List.set_getElem_self]
theorem ako(hV:Sub V W){ch coding:Nat}(hc:coding<4)(hch:1<=ch/\ch<=2){s:Sl}{l:ab}(hs:aF V s l)(hl:l.length<=1000000) :
  aB 80 [s.v,iv coding,iv ch] W λv w'=>∃r:Sl,v=r.v/\Rel W V [.row r 3 1 ((iT l coding ch).flatMap bN)] V w':=by
 have H:=aG hV;have hlen:=hs.len;have f256:bY false=256:=rfl;have f65:bY true=65536:=rfl;refine eV Tryz.func80 98 [0,1,2,6,7,8,9,10,11,12,13,18,24,34,52,70,74,88] ?_;refine wk ?_;obtain rfl|rfl|rfl|rfl:coding=0\/coding=1\/coding=2\/coding=3:=aa
 ·replace H:=H.br 3 1;refine wk ?_;refine aP (S:=Nat×Sl) al [0,1,2,6,7,8,13,18,70,74,88] (λk=>[(9,k.2.v),(10,iv ((k.1*(0%2+1):Nat):Int))]) (λk w'=>k.1<=(cK (aH 0) l).length/\Rel W V [.row k.2 3 1 ((dh (cj 0) ch (bY (aH 0)) ((cK (aH 0) l).take k.1)).flatMap fT)] V w') (λk _=>(cK (aH 0) l).length-k.1) (0,⟨none,0,0⟩) ?_;conv=>whnf
  refine⟨sB,⟨aa,H⟩,?_⟩;clear H;rintro⟨k,r5⟩w⟨hk,H⟩;dsimp only at hk H |-;have hrl:=sA (aH 0) l;by_cases hlt:k<(cK (aH 0) l).length;rotate_left
  ·rw[ae ai]at hrl;simp only[W0,dR,wK];rw[bJ aa]at H;obtain⟨U,hU⟩:∃U,U=dh (cj 0) ch (bY (aH 0)) (cK (aH 0) l):=⟨_,rfl⟩
   rw[show iT l 0 ch=U.map (ep (aH 0))by rw[hU];rfl];rw[<-hU]at H;have jl:U.length<=1000000:=by rw[hU,oO];omega
   have e9:∀i:Nat,U[i]?.getD 0<bY (aH 0):=by rw[hU];exact λi=>tR (sC _ _) ai i
   clear hU;refine wk ?_;rw[Il]at H;replace H:Rel W V [.row r5 3 1 ((mix (aH 0) U 0).flatMap bN)] V w:=H;refine aP (S:=Nat) al [0,1,2,6,7,8,9,10,11,12,18,24,34,52] (λj=>[(13,iv j)]) (λj w'=>j<=U.length/\Rel W V [.row r5 3 1 ((mix (aH 0) U j).flatMap bN)] V w') (λj _=>U.length-j) 0 ?_;conv=>whnf
   refine⟨sB,⟨aa,H⟩,?_⟩;clear H;rintro j w⟨hj,H⟩;dsimp only at hj H |-;have S5:=H.cV (i:=0) rfl (λ_=>rfl) ai;have qi:=S5.len;rw[uR]at qi;by_cases eC:j<U.length;rotate_left
   ·refine wk ?_;refine⟨r5,rfl,?_⟩;have:mix (aH 0) U j=U.map (ep (aH 0)):=by unfold mix;rw[bJ (by simp;omega),fc (by simp;omega),aZ]
    rw[this]at H;exact H
   obtain⟨q0,e0⟩:=S5.aR (g:=λn:Int=>iv n) (λ_=>rfl) (i:=j) (by rw[uR];exact eC);rw[EE eC]at e0;have hv:ep (aH 0) U[j]=((U[j]:Int)-128)*256:=rfl;have fe:=e9 j;rw[bz eC]at fe;have fe:U[j]<65536:=BK fe ai;refine wk ?_;refine Rel.zu (i:=0) H rfl j aa rfl rfl ?_;intro w H;rw[Ik,<-hv,EF eC]at H;refine wk ?_;exact⟨sB,j+1,sB,⟨aa,H⟩,aa⟩
  have hw:aH 0=false:=rfl;have hd:cj 0=false:=rfl;have cf:=λr h=>Cp (df:=cj 0) (ch:=ch) (full:=bY (aH 0)) (l:=cK (aH 0) l) (k:=k) (r:=r) h;have jl:(dh (cj 0) ch (bY (aH 0)) ((cK (aH 0) l).take k)).length=k:=by rw[oO,bg];omega
  have e9:∀i:Nat,(dh (cj 0) ch (bY (aH 0)) ((cK (aH 0) l).take k))[i]?.getD 0<bY (aH 0):=λi=>tR (λr hr=>sC _ _ r (nG hr)) ai i;obtain⟨U,hU⟩:∃U,U=dh (cj 0) ch (bY (aH 0)) ((cK (aH 0) l).take k):=⟨_,rfl⟩
  rw[<-hU]at jl H;simp only[<-hU]at cf e9;have qi:=(H.cV (i:=0) rfl (λ_=>rfl) ai).len;simp only[hw,hd]at hrl cf e9 H hk hlt |-;rw[ae ah]at hrl;have cf:=cf _ (B1 aa);obtain⟨p0,d0⟩:=hs.iK (i:=k) aa;have mF:at8 l k<256:=dm _;simp only[W0,dR,wK];refine H.wg ?_;intro _ w H;rw[ae ah]at cf;refine wk ?_;refine Rel.bF (f:=fT) (l:=U) (x:=at8 l k) rfl (λ_=>rfl) (bc.1 rfl) H (by simp;omega) aa ?_;intro iS w H;refine wk ?_;refine⟨sB,(k+1,iS),⟨rfl,ax (λz=>some (bO .i64 z)) (by simp only;omega),trivial⟩,⟨by dsimp only;omega,?_⟩,by dsimp only;omega⟩;dsimp only;have dC:=cf;try simp only[f256]at dC
  try simp only[f256]
  rw[dC];exact H.sx
 ·replace H:=H.br 3 1;refine wk ?_;refine aP (S:=Nat×Sl) al [0,1,2,6,7,8,13,18,70,74,88] (λk=>[(9,k.2.v),(10,iv ((k.1*(1%2+1):Nat):Int))]) (λk w'=>k.1<=(cK (aH 1) l).length/\Rel W V [.row k.2 3 1 ((dh (cj 1) ch (bY (aH 1)) ((cK (aH 1) l).take k.1)).flatMap fT)] V w') (λk _=>(cK (aH 1) l).length-k.1) (0,⟨none,0,0⟩) ?_;conv=>whnf
  refine⟨sB,⟨aa,H⟩,?_⟩;clear H;rintro⟨k,r5⟩w⟨hk,H⟩;dsimp only at hk H |-;have hrl:=sA (aH 1) l;by_cases hlt:k<(cK (aH 1) l).length;rotate_left
  ·rw[ag ai]at hrl;simp only[Nat.reduceMod,Nat.reduceAdd]at hrl |-;rw[bJ aa]at H;obtain⟨U,hU⟩:∃U,U=dh (cj 1) ch (bY (aH 1)) (cK (aH 1) l):=⟨_,rfl⟩
   rw[show iT l 1 ch=U.map (ep (aH 1))by rw[hU];rfl];rw[<-hU]at H;have jl:U.length<=1000000:=by rw[hU,oO];omega
   have e9:∀i:Nat,U[i]?.getD 0<bY (aH 1):=by rw[hU];exact λi=>tR (sC _ _) ai i
   clear hU;refine wk ?_;rw[Il]at H;replace H:Rel W V [.row r5 3 1 ((mix (aH 1) U 0).flatMap bN)] V w:=H;refine aP (S:=Nat) al [0,1,2,6,7,8,9,10,11,12,18,24,34,52] (λj=>[(13,iv j)]) (λj w'=>j<=U.length/\Rel W V [.row r5 3 1 ((mix (aH 1) U j).flatMap bN)] V w') (λj _=>U.length-j) 0 ?_;conv=>whnf
   refine⟨sB,⟨aa,H⟩,?_⟩;clear H;rintro j w⟨hj,H⟩;dsimp only at hj H |-;have S5:=H.cV (i:=0) rfl (λ_=>rfl) ai;have qi:=S5.len;rw[uR]at qi;by_cases eC:j<U.length;rotate_left
   ·refine wk ?_;refine⟨r5,rfl,?_⟩;have:mix (aH 1) U j=U.map (ep (aH 1)):=by unfold mix;rw[bJ (by simp;omega),fc (by simp;omega),aZ]
    rw[this]at H;exact H
   obtain⟨q0,e0⟩:=S5.aR (g:=λn:Int=>iv n) (λ_=>rfl) (i:=j) (by rw[uR];exact eC);rw[EE eC]at e0;by_cases h32:32768<=U[j]
   ·have hv:ep (aH 1) U[j]=(U[j]:Int)-65536:=ag h32;have fe:=e9 j;rw[bz eC]at fe;have fe:U[j]<65536:=BK fe ai;refine wk ?_;refine Rel.zu (i:=0) H rfl j aa rfl rfl ?_;intro w H;rw[Ik,<-hv,EF eC]at H;refine wk ?_;exact⟨sB,j+1,sB,⟨aa,H⟩,aa⟩
   have hv:ep (aH 1) U[j]=(U[j]:Int):=ae h32;rw[VF eC hv]at H;refine wk ?_;exact⟨sB,j+1,sB,⟨aa,H⟩,aa⟩
  have hw:aH 1=true:=rfl;have hd:cj 1=false:=rfl;have cf:=λr h=>Cp (df:=cj 1) (ch:=ch) (full:=bY (aH 1)) (l:=cK (aH 1) l) (k:=k) (r:=r) h;have jl:(dh (cj 1) ch (bY (aH 1)) ((cK (aH 1) l).take k)).length=k:=by rw[oO,bg];omega
  have e9:∀i:Nat,(dh (cj 1) ch (bY (aH 1)) ((cK (aH 1) l).take k))[i]?.getD 0<bY (aH 1):=λi=>tR (λr hr=>sC _ _ r (nG hr)) ai i;obtain⟨U,hU⟩:∃U,U=dh (cj 1) ch (bY (aH 1)) ((cK (aH 1) l).take k):=⟨_,rfl⟩
  rw[<-hU]at jl H;simp only[<-hU]at cf e9;have qi:=(H.cV (i:=0) rfl (λ_=>rfl) ai).len;simp only[hw,hd]at hrl cf e9 H hk hlt |-;rw[ag ah]at hrl;obtain⟨u,k9⟩:∃u,u=at8 l (k*2)+256*at8 l (k*2+1):=⟨_,rfl⟩
  have cf:=cf u (by rw[B2 aa,lP 2 k,k9]);obtain⟨p0,d0⟩:=hs.iK (i:=k*2) aa;obtain⟨p1,d1⟩:=hs.iK (i:=k*2+1) aa;have mF:at8 l (k*2)<256:=dm _;have xP:at8 l (k*2+1)<256:=dm _;have uI:u<65536:=aa;have eu:((at8 l (k*2):Nat):Int)+256*((at8 l (k*2+1):Nat):Int)=(u:Int):=aa;simp only[Nat.reduceMod,Nat.reduceAdd];refine H.wg ?_;intro _ w H;rw[ae ah]at cf;try rw[show(((k*2:Nat):Int)+1)=((k*2+1:Nat):Int)by omega]
  refine wk ?_;try rw[eu]at H
  rw[eu];refine wk ?_;refine Rel.bF (f:=fT) (l:=U) (x:=u) rfl (λ_=>rfl) (bc.1 rfl) H (by simp;omega) aa ?_;intro iS w H;refine wk ?_;refine⟨sB,(k+1,iS),⟨rfl,ax (λz=>some (bO .i64 z)) (by simp only;omega),trivial⟩,⟨by dsimp only;omega,?_⟩,by dsimp only;omega⟩;dsimp only;have dC:=cf;try simp only[f65]at dC
  try simp only[f65]
  rw[dC];exact H.sx
 ·replace H:=H.br 3 1;refine wk ?_;refine aP (S:=Nat×Sl) al [0,1,2,6,7,8,13,18,70,74,88] (λk=>[(9,k.2.v),(10,iv ((k.1*(2%2+1):Nat):Int))]) (λk w'=>k.1<=(cK (aH 2) l).length/\Rel W V [.row k.2 3 1 ((dh (cj 2) ch (bY (aH 2)) ((cK (aH 2) l).take k.1)).flatMap fT)] V w') (λk _=>(cK (aH 2) l).length-k.1) (0,⟨none,0,0⟩) ?_;conv=>whnf
  refine⟨sB,⟨aa,H⟩,?_⟩;clear H;rintro⟨k,r5⟩w⟨hk,H⟩;dsimp only at hk H |-;have hrl:=sA (aH 2) l;by_cases hlt:k<(cK (aH 2) l).length;rotate_left
  ·rw[ae ai]at hrl;simp only[Nat.reduceMod,dR,wK];rw[bJ aa]at H;obtain⟨U,hU⟩:∃U,U=dh (cj 2) ch (bY (aH 2)) (cK (aH 2) l):=⟨_,rfl⟩
   rw[show iT l 2 ch=U.map (ep (aH 2))by rw[hU];rfl];rw[<-hU]at H;have jl:U.length<=1000000:=by rw[hU,oO];omega
   have e9:∀i:Nat,U[i]?.getD 0<bY (aH 2):=by rw[hU];exact λi=>tR (sC _ _) ai i
   clear hU;refine wk ?_;rw[Il]at H;replace H:Rel W V [.row r5 3 1 ((mix (aH 2) U 0).flatMap bN)] V w:=H;refine aP (S:=Nat) al [0,1,2,6,7,8,9,10,11,12,18,24,34,52] (λj=>[(13,iv j)]) (λj w'=>j<=U.length/\Rel W V [.row r5 3 1 ((mix (aH 2) U j).flatMap bN)] V w') (λj _=>U.length-j) 0 ?_;conv=>whnf
   refine⟨sB,⟨aa,H⟩,?_⟩;clear H;rintro j w⟨hj,H⟩;dsimp only at hj H |-;have S5:=H.cV (i:=0) rfl (λ_=>rfl) ai;have qi:=S5.len;rw[uR]at qi;by_cases eC:j<U.length;rotate_left
   ·refine wk ?_;refine⟨r5,rfl,?_⟩;have:mix (aH 2) U j=U.map (ep (aH 2)):=by unfold mix;rw[bJ (by simp;omega),fc (by simp;omega),aZ]
    rw[this]at H;exact H
   obtain⟨q0,e0⟩:=S5.aR (g:=λn:Int=>iv n) (λ_=>rfl) (i:=j) (by rw[uR];exact eC);rw[EE eC]at e0;have hv:ep (aH 2) U[j]=((U[j]:Int)-128)*256:=rfl;have fe:=e9 j;rw[bz eC]at fe;have fe:U[j]<65536:=BK fe ai;refine wk ?_;refine Rel.zu (i:=0) H rfl j aa rfl rfl ?_;intro w H;rw[Ik,<-hv,EF eC]at H;refine wk ?_;exact⟨sB,j+1,sB,⟨aa,H⟩,aa⟩
  have hw:aH 2=false:=rfl;have hd:cj 2=true:=rfl;have cf:=λr h=>Cp (df:=cj 2) (ch:=ch) (full:=bY (aH 2)) (l:=cK (aH 2) l) (k:=k) (r:=r) h;have jl:(dh (cj 2) ch (bY (aH 2)) ((cK (aH 2) l).take k)).length=k:=by rw[oO,bg];omega
  have e9:∀i:Nat,(dh (cj 2) ch (bY (aH 2)) ((cK (aH 2) l).take k))[i]?.getD 0<bY (aH 2):=λi=>tR (λr hr=>sC _ _ r (nG hr)) ai i;obtain⟨U,hU⟩:∃U,U=dh (cj 2) ch (bY (aH 2)) ((cK (aH 2) l).take k):=⟨_,rfl⟩
  rw[<-hU]at jl H;simp only[<-hU]at cf e9;have qi:=(H.cV (i:=0) rfl (λ_=>rfl) ai).len;simp only[hw,hd]at hrl cf e9 H hk hlt |-;rw[ae ah]at hrl;have cf:=cf _ (B1 aa);obtain⟨p0,d0⟩:=hs.iK (i:=k) aa;have mF:at8 l k<256:=dm _;simp only[Nat.reduceMod,dR,wK];refine wk ?_;by_cases hdf:ch<=k
  ·rw[ag (by simp[hdf])]at cf;rw[f256]at cf;have S5:=H.cV (i:=0) rfl (λ_=>rfl) ai;obtain⟨q0,e0⟩:=S5.aR (g:=λn:Nat=>iv (n:Int)) (λ_=>rfl) (i:=k-ch) aa;have ej:((r5.len:Int)-(ch:Int))=((k-ch:Nat):Int):=aa;obtain⟨u,hu⟩:∃u,u=(at8 l k+U[k-ch]?.getD 0)%256:=⟨_,rfl⟩
   have re:=e9 (k-ch);simp only[f256]at re;rw[<-hu]at cf;have fJ:U[k-ch]?.getD 0=U[k-ch]:=by rw[bz aa];rfl
   rw[fJ]at re hu;have ez:(((at8 l k:Nat):Int)+((U[k-ch]:Nat):Int))%256=((u:Nat):Int):=aa;refine wk ?_;rw[ej];refine H.wg ?_;intro _ w H;try rw[ez]at H
   rw[ez];refine wk ?_;refine Rel.bF (f:=fT) (l:=U) (x:=u) rfl (λ_=>rfl) (bc.1 rfl) H (by simp;omega) aa ?_;intro iS w H;refine wk ?_;refine⟨sB,(k+1,iS),⟨rfl,ax (λz=>some (bO .i64 z)) (by simp only;omega),trivial⟩,⟨by dsimp only;omega,?_⟩,by dsimp only;omega⟩;dsimp only;have dC:=cf;try simp only[f256,f65]at dC
   try simp only[f256]
   rw[dC];exact H.sx
  rw[ae (λh=>hdf h.2)]at cf;refine H.wg ?_;intro _ w H;refine Rel.bF (f:=fT) (l:=U) (x:=at8 l k) rfl (λ_=>rfl) (bc.1 rfl) H (by simp;omega) aa ?_;intro iS w H;refine wk ?_;refine⟨sB,(k+1,iS),⟨rfl,ax (λz=>some (bO .i64 z)) (by simp only;omega),trivial⟩,⟨by dsimp only;omega,?_⟩,by dsimp only;omega⟩;dsimp only;have dC:=cf;try simp only[f256]at dC
  try simp only[f256]
  rw[dC];exact H.sx
 replace H:=H.br 3 1;refine wk ?_;refine aP (S:=Nat×Sl) al [0,1,2,6,7,8,13,18,70,74,88] (λk=>[(9,k.2.v),(10,iv ((k.1*(3%2+1):Nat):Int))]) (λk w'=>k.1<=(cK (aH 3) l).length/\Rel W V [.row k.2 3 1 ((dh (cj 3) ch (bY (aH 3)) ((cK (aH 3) l).take k.1)).flatMap fT)] V w') (λk _=>(cK (aH 3) l).length-k.1) (0,⟨none,0,0⟩) ?_;conv=>whnf
 refine⟨sB,⟨aa,H⟩,?_⟩;clear H;rintro⟨k,r5⟩w⟨hk,H⟩;dsimp only at hk H |-;have hrl:=sA (aH 3) l;by_cases hlt:k<(cK (aH 3) l).length;rotate_left
 ·rw[ag ai]at hrl;simp only[Nat.reduceMod,Nat.reduceAdd]at hrl |-;rw[bJ aa]at H;obtain⟨U,hU⟩:∃U,U=dh (cj 3) ch (bY (aH 3)) (cK (aH 3) l):=⟨_,rfl⟩
  rw[show iT l 3 ch=U.map (ep (aH 3))by rw[hU];rfl];rw[<-hU]at H;have jl:U.length<=1000000:=by rw[hU,oO];omega
  have e9:∀i:Nat,U[i]?.getD 0<bY (aH 3):=by rw[hU];exact λi=>tR (sC _ _) ai i
  clear hU;refine wk ?_;rw[Il]at H;replace H:Rel W V [.row r5 3 1 ((mix (aH 3) U 0).flatMap bN)] V w:=H;refine aP (S:=Nat) al [0,1,2,6,7,8,9,10,11,12,18,24,34,52] (λj=>[(13,iv j)]) (λj w'=>j<=U.length/\Rel W V [.row r5 3 1 ((mix (aH 3) U j).flatMap bN)] V w') (λj _=>U.length-j) 0 ?_;conv=>whnf
  refine⟨sB,⟨aa,H⟩,?_⟩;clear H;rintro j w⟨hj,H⟩;dsimp only at hj H |-;have S5:=H.cV (i:=0) rfl (λ_=>rfl) ai;have qi:=S5.len;rw[uR]at qi;by_cases eC:j<U.length;rotate_left
  ·refine wk ?_;refine⟨r5,rfl,?_⟩;have:mix (aH 3) U j=U.map (ep (aH 3)):=by unfold mix;rw[bJ (by simp;omega),fc (by simp;omega),aZ]
   rw[this]at H;exact H
  obtain⟨q0,e0⟩:=S5.aR (g:=λn:Int=>iv n) (λ_=>rfl) (i:=j) (by rw[uR];exact eC);rw[EE eC]at e0;by_cases h32:32768<=U[j]
  ·have hv:ep (aH 3) U[j]=(U[j]:Int)-65536:=ag h32;have fe:=e9 j;rw[bz eC]at fe;have fe:U[j]<65536:=BK fe ai;refine wk ?_;refine Rel.zu (i:=0) H rfl j aa rfl rfl ?_;intro w H;rw[Ik,<-hv,EF eC]at H;refine wk ?_;exact⟨sB,j+1,sB,⟨aa,H⟩,aa⟩
  have hv:ep (aH 3) U[j]=(U[j]:Int):=ae h32;rw[VF eC hv]at H;refine wk ?_;exact⟨sB,j+1,sB,⟨aa,H⟩,aa⟩
 have hw:aH 3=true:=rfl;have hd:cj 3=true:=rfl;have cf:=λr h=>Cp (df:=cj 3) (ch:=ch) (full:=bY (aH 3)) (l:=cK (aH 3) l) (k:=k) (r:=r) h;have jl:(dh (cj 3) ch (bY (aH 3)) ((cK (aH 3) l).take k)).length=k:=by rw[oO,bg];omega
 have e9:∀i:Nat,(dh (cj 3) ch (bY (aH 3)) ((cK (aH 3) l).take k))[i]?.getD 0<bY (aH 3):=λi=>tR (λr hr=>sC _ _ r (nG hr)) ai i;obtain⟨U,hU⟩:∃U,U=dh (cj 3) ch (bY (aH 3)) ((cK (aH 3) l).take k):=⟨_,rfl⟩
 rw[<-hU]at jl H;simp only[<-hU]at cf e9;have qi:=(H.cV (i:=0) rfl (λ_=>rfl) ai).len;simp only[hw,hd]at hrl cf e9 H hk hlt |-;rw[ag ah]at hrl;obtain⟨u,k9⟩:∃u,u=at8 l (k*2)+256*at8 l (k*2+1):=⟨_,rfl⟩
 have cf:=cf u (by rw[B2 aa,lP 2 k,k9]);obtain⟨p0,d0⟩:=hs.iK (i:=k*2) aa;obtain⟨p1,d1⟩:=hs.iK (i:=k*2+1) aa;have mF:at8 l (k*2)<256:=dm _;have xP:at8 l (k*2+1)<256:=dm _;have uI:u<65536:=aa;have eu:((at8 l (k*2):Nat):Int)+256*((at8 l (k*2+1):Nat):Int)=(u:Int):=aa;simp only[Nat.reduceMod,Nat.reduceAdd];refine wk ?_;try rw[show(((k*2:Nat):Int)+1)=((k*2+1:Nat):Int)by omega]
 refine wk ?_;try rw[eu]at H
 rw[eu];by_cases hdf:ch<=k
 ·rw[ag (by simp[hdf])]at cf;rw[f65]at cf;obtain⟨y,hy⟩:∃y,y=u:=⟨_,rfl⟩
  rw[<-hy]at uI cf |-;clear hy k9 eu u;have S5:=H.cV (i:=0) rfl (λ_=>rfl) ai;obtain⟨q0,e0⟩:=S5.aR (g:=λn:Nat=>iv (n:Int)) (λ_=>rfl) (i:=k-ch) aa;have ej:((r5.len:Int)-(ch:Int))=((k-ch:Nat):Int):=aa;obtain⟨u,hu⟩:∃u,u=(y+U[k-ch]?.getD 0)%65536:=⟨_,rfl⟩
  have re:=e9 (k-ch);simp only[f65]at re;rw[<-hu]at cf;have fJ:U[k-ch]?.getD 0=U[k-ch]:=by rw[bz aa];rfl
  rw[fJ]at re hu;have ez:(((y:Nat):Int)+((U[k-ch]:Nat):Int))%65536=((u:Nat):Int):=aa;refine wk ?_;rw[ej];refine H.wg ?_;intro _ w H;try rw[ez]at H
  rw[ez];refine wk ?_;refine Rel.bF (f:=fT) (l:=U) (x:=u) rfl (λ_=>rfl) (bc.1 rfl) H (by simp;omega) aa ?_;intro iS w H;refine wk ?_;refine⟨sB,(k+1,iS),⟨rfl,ax (λz=>some (bO .i64 z)) (by simp only;omega),trivial⟩,⟨by dsimp only;omega,?_⟩,by dsimp only;omega⟩;dsimp only;have dC:=cf;try simp only[f256,f65]at dC
  try simp only[f65]
  rw[dC];exact H.sx
 rw[ae (λh=>hdf h.2)]at cf;refine H.wg ?_;intro _ w H;refine Rel.bF (f:=fT) (l:=U) (x:=u) rfl (λ_=>rfl) (bc.1 rfl) H (by simp;omega) aa ?_;intro iS w H;refine wk ?_;refine⟨sB,(k+1,iS),⟨rfl,ax (λz=>some (bO .i64 z)) (by simp only;omega),trivial⟩,⟨by dsimp only;omega,?_⟩,by dsimp only;omega⟩;dsimp only;have dC:=cf;try simp only[f65]at dC
 try simp only[f65]
 rw[dC];exact H.sx
end Go.Proofs.YtmoiobegbpkkbaaGreatDoor
