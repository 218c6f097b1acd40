import Derived.Test.YtmoiobegbpkkbaaGreatDoorKAI
import Derived.Lib.ValidLaws
import Derived.Shelf.Unicode.DecodeSlow
import Derived.Laws.BitsAllLaws
namespace Go.Proofs.YtmoiobegbpkkbaaGreatDoor
open Go Go.RowKit
set_option maxRecDepth 100000
set_option maxHeartbeats 8000000
abbrev rv (c:Nat):Value:=.int .i32 (c:Int)
abbrev cb (c:Nat):List Value:=[rv c]
abbrev cv (r:aR):List Value:=[iv r.1,iv r.2]
abbrev oA (e:Int) (r:Sl):List Value:=[iv e,r.v]
theorem vS {x:Int} {c:Nat} (h:x=c) (hc:c<2147483648):[Value.int .i32 (wr .i32 x)]=cb c:=by
 have e:wr .i32 x=x:=by
  subst h
  unfold wr
  simp only [IntKind.wrap,IntKind.bits,IntKind.signed]
  simp
  omega
 rw [e,h]
theorem iN {α:Type} (a b:List α) (o:Option (List α)):(o.map (b++·)).map (a++·)=o.map ((a++b)++·):=by cases o<;>simp
theorem uK {c:Nat} (h:bT c):c<1114112:=by unfold bT at h;omega
section
variable {V W:World}
theorem w8 (hV:Sub V W) (c i:Int):aj Tryz.prog 118 [iv c,iv i].toArray W fun v w'=>v=gq c i∧Rel W V [] V w':=by
 have H:=Rel.start hV
 refine eV Tryz.func118 8 [0,1,4] ?_
 refine wk ?_
 refine H.nA ?_;clear H;intro w b1 H
 refine H.wg ?_;clear H;intro w H
 exact H.sx
theorem kC (n a b:Int) (w:World):aj Tryz.prog 201 [iv n,iv a,iv b].toArray w fun v w'=>v=.bool (decide (a≤n∧n<b))∧w=w':=by
 refine eV Tryz.func201 15 [0,1,2,6] ?_
 conv=>whnf
 refine dw (fun h1=>?_) (fun h1=>?_)
 ·conv=>whnf
  exact ⟨congrArg Value.bool (decide_eq_decide.2 ⟨fun h=>⟨h1,h⟩,fun h=>h.2⟩),rfl⟩
 ·conv=>whnf
  exact ⟨congrArg Value.bool (decide_eq_false (fun h=>h1 h.1)).symm,rfl⟩
theorem Ou (hV:Sub V W) (c:Nat):aj Tryz.prog 121 [rv c].toArray W fun v w'=>v=.bool (decide (tF c))∧Rel W V [] V w':=by
 have H:=Rel.start hV
 refine eV Tryz.func121 25 [0,2] ?_
 by_cases h0:c<32
 ·by_cases h1:c=9
  ·rw [decide_eq_false aa]
   refine wk ?_
   exact H
  by_cases h2:c=10
  ·rw [decide_eq_false aa]
   refine wk ?_
   exact H
  by_cases h3:c=13
  ·rw [decide_eq_false aa]
   refine wk ?_
   exact H
  rw [decide_eq_true aa]
  refine wk ?_
  exact H
 by_cases h1:127≤c
 ·refine wk ?_
  exact ⟨congrArg Value.bool (decide_eq_decide.2 aa),H⟩
 ·rw [decide_eq_false aa]
  refine wk ?_
  exact H
theorem NU (hV:Sub V W) {s:Sl} {l:List Nat} (hs:aw cb V s l) (hl:l.length≤1099511627776) {g:FuncId} {caps:List Value} (p:Nat→Bool)
  (hg:∀x∈l,∀w:World,Sub V w→aj Tryz.prog g (rv x::caps).toArray w fun v w'=>v=.bool (p x)∧Rel w V [] V w') :
  aj Tryz.prog 120 [s.v,.func (.func g) #[] caps.toArray].toArray W fun v w'=>v=.bool (l.any p)∧Rel W V [] V w':=by
 have key:aj Tryz.prog 194 [s.v,.func (.func g) #[] caps.toArray].toArray W fun v w'=>(∃i:Int,v=iv i∧(0≤i↔l.any p=true))∧Rel W V [] V w':=by
  have H:=Rel.start hV
  have hlen:=hs.len
  refine eV Tryz.func194 19 [0,1,4,5,7,8,9,16] ?_
  refine wk ?_
  refine aK (S:=Nat) ad [0,1,7] (fun k=>[(8,iv k)]) (fun k w'=>k≤l.length∧(l.take k).any p=false∧Rel W V [] V w') (fun k _=>l.length - k) 0 ?_
  conv=>whnf
  refine ⟨sB,⟨aa,ae,H⟩,?_⟩
  clear H
  rintro k w ⟨hk,hz,H⟩
  by_cases hlt:k<l.length
  ·obtain ⟨hp,hc⟩:=hs.nL (g:=rv) (fun _=>rfl) hlt
   refine wk ?_
   refine (hg l[k] (List.getElem_mem hlt) _ H.data).use ?_
   rintro v w ⟨rfl,K⟩
   replace H:=H.call K
   conv=>whnf
   refine q7 (fun h1=>?_) (fun h1=>?_)
   ·refine wk ?_
    refine ⟨⟨k,rfl,fun _=>?_,fun _=>by omega⟩,H⟩
    rw [List.any_eq_true]
    exact ⟨l[k],List.getElem_mem hlt,h1⟩
   ·refine wk ?_
    exact ⟨sB,k+1,sB,⟨aa,by rw [Ac hlt,hz,h1];rfl,H⟩,aa⟩
  ·refine wk ?_
   refine ⟨⟨-1,rfl,fun h=>by omega,fun h=>?_⟩,H⟩
   rw [List.take_of_length_le aa] at hz
   rw [hz] at h
   cases h
 refine eV Tryz.func120 9 [0,1,4] ?_
 conv=>whnf
 refine key.use ?_
 rintro v w ⟨⟨i,rfl,hi⟩,H⟩
 conv=>whnf
 refine ⟨?_,H⟩
 simp only [hi]
 cases l.any p<;>rfl
theorem NV (hV:Sub V W) {s:Sl} {l:List aR} (hs:aw cv V s l) (hl:l.length≤1099511627776) {g:FuncId} {caps:List Value} (p:aR→Bool)
  (hg:∀x∈l,∀w:World,Sub V w→aj Tryz.prog g (.agg (cv x).toArray::caps).toArray w fun v w'=>v=.bool (p x)∧Rel w V [] V w') :
  aj Tryz.prog 264 [s.v,.func (.func g) #[] caps.toArray].toArray W fun v w'=>v=.bool (l.any p)∧Rel W V [] V w':=by
 have key:aj Tryz.prog 306 [s.v,.func (.func g) #[] caps.toArray].toArray W fun v w'=>(∃i:Int,v=iv i∧(0≤i↔l.any p=true))∧Rel W V [] V w':=by
  have H:=Rel.start hV
  have hlen:=hs.len
  refine eV Tryz.func306 19 [0,1,4,5,7,8,9,16] ?_
  refine wk ?_
  refine aK (S:=Nat) ad [0,1,7] (fun k=>[(8,iv k)]) (fun k w'=>k≤l.length∧(l.take k).any p=false∧Rel W V [] V w') (fun k _=>l.length - k) 0 ?_
  conv=>whnf
  refine ⟨sB,⟨aa,ae,H⟩,?_⟩
  clear H
  rintro k w ⟨hk,hz,H⟩
  by_cases hlt:k<l.length
  ·obtain ⟨hp,hc,hd⟩:=hs.dW (g:=fun r:aR=>iv r.1) (g':=fun r:aR=>iv r.2) (fun _=>rfl) hlt
   refine wk ?_
   refine (hg l[k] (List.getElem_mem hlt) _ H.data).use ?_
   rintro v w ⟨rfl,K⟩
   replace H:=H.call K
   conv=>whnf
   refine q7 (fun h1=>?_) (fun h1=>?_)
   ·refine wk ?_
    refine ⟨⟨k,rfl,fun _=>?_,fun _=>by omega⟩,H⟩
    rw [List.any_eq_true]
    exact ⟨l[k],List.getElem_mem hlt,h1⟩
   ·refine wk ?_
    exact ⟨sB,k+1,sB,⟨aa,by rw [Ac hlt,hz,h1];rfl,H⟩,aa⟩
  ·refine wk ?_
   refine ⟨⟨-1,rfl,fun h=>by omega,fun h=>?_⟩,H⟩
   rw [List.take_of_length_le aa] at hz
   rw [hz] at h
   cases h
 refine eV Tryz.func264 9 [0,1,4] ?_
 conv=>whnf
 refine key.use ?_
 rintro v w ⟨⟨i,rfl,hi⟩,H⟩
 conv=>whnf
 refine ⟨?_,H⟩
 simp only [hi]
 cases l.any p<;>rfl
theorem Xa (hV:Sub V W) (x:aR):aj Tryz.prog 265 [.agg (cv x).toArray].toArray W fun v w'=>v=.bool (!decide (x.1=0))∧Rel W V [] V w':=by
 have H:=Rel.start hV
 refine eV Tryz.func265 6 [0,1,2] ?_
 refine wk ?_
 refine H.nA ?_;clear H;intro w b1 H
 refine wk ?_
 exact ⟨congrArg Value.bool (by by_cases h:x.1=0<;>simp [h]),H.sx⟩
theorem MN (e:Nat) (rs:List bK) (h:∀r∈rs,1≤r.2):(decide (e=0)&&!(aC rs).any (fun x=>!decide (x.1=0)))=eu e (bP rs):=by
 unfold eu
 congr 1
 rw [List.not_any_eq_all_not]
 unfold aC bP
 rw [List.all_map,List.all_flatMap]
 rw [Bool.eq_iff_iff,List.all_eq_true,List.all_eq_true]
 refine forall_congr' fun r=>forall_congr' fun hr=>?_
 obtain ⟨k,n⟩:=r
 have:=h _ hr
 dsimp only at this
 obtain ⟨m,rfl⟩:∃m,n=m+1:=⟨n - 1,aa⟩
 simp [Function.comp,List.replicate_succ]
 omega
theorem zv (hV:Sub V W) (e:Nat) {s:Sl} {rs:List bK} (hs:aw cv V s (aC rs)) (hl:rs.length≤1000000) (h:∀r∈rs,1≤r.2):aj Tryz.prog 195 [.agg (oA e s).toArray].toArray W fun v w'=>v=.bool (eu e (bP rs))∧Rel W V [] V w':=by
 have H:=Rel.start hV
 rw [←MN e rs h]
 have cq:(aC rs).length=rs.length:=by simp [aC]
 refine eV Tryz.func195 12 [0,1,2] ?_
 refine wk ?_
 refine H.nA ?_;clear H;intro w b1 H
 by_cases he:e=0
 ·rw [decide_eq_true he,Bool.true_and]
  refine wk ?_
  refine (NV (g:=265) (caps:=[]) H.data hs aa (fun x=>!decide (x.1=0)) (fun x _ w hw=>Xa hw x)).use ?_
  rintro v w ⟨rfl,K⟩
  (replace H:=H.aq K)
  refine wk ?_
  exact H.sx
 ·rw [decide_eq_false he,Bool.false_and]
  refine wk ?_
  exact H.sx
theorem Xv {big:Bool} {u:Nat} (hu:u<65536):(if big=true then [Value.int .u8 (wr .u8 ((u:Int) / 256)),Value.int .u8 (wr .u8 (u:Int))] else [Value.int .u8 (wr .u8 (u:Int)),Value.int .u8 (wr .u8 ((u:Int) / 256))])=(bz big u).flatMap ay:=by
 have e1:wr .u8 ((u:Int) / 256)=((u / 256:Nat):Int):=by show ((u:Int) / 256)%256=_;omega
 have e2:wr .u8 (u:Int)=((u%256:Nat):Int):=by show (u:Int)%256=_;omega
 rw [e1,e2]
 unfold bz
 split<;>simp only [List.flatMap_cons,List.flatMap_nil,ay,bv,List.cons_append,List.nil_append]<;>rw [bW aa,bW aa]
theorem oQ (hV:Sub V W) {u:Nat} (hu:u<65536) (big:Bool):aj Tryz.prog 208 [iv (u:Int),.bool big].toArray W fun v w'=>∃(V':World) (r:Sl),Sub V V'∧Rel W V [] V' w'∧v=r.v∧ao V' r (bz big u):=by
 have H:=Rel.start hV
 have hc:=Xv (big:=big) hu
 refine eV Tryz.func208 18 [0,1,4,5] ?_
 cases big
 ·rw [if_neg ae] at hc
  refine wk ?_
  refine H.nA ?_;clear H;intro w b1 H
  replace H:=H.cj (c':=(bz false u).flatMap ay) (by rw [k9];exact hc)
  obtain ⟨V2,hV2,H,hb⟩:=H.bJ
  refine wk ?_
  exact ⟨V2,⟨some ⟨b1,0,none⟩,2,2⟩,hV2,H.sx,rfl,⟨rfl,Nat.le_refl _,hb.cells⟩⟩
 ·rw [if_pos rfl] at hc
  refine wk ?_
  refine H.nA ?_;clear H;intro w b1 H
  replace H:=H.cj (c':=(bz true u).flatMap ay) (by rw [k9];exact hc)
  obtain ⟨V2,hV2,H,hb⟩:=H.bJ
  refine wk ?_
  exact ⟨V2,⟨some ⟨b1,0,none⟩,2,2⟩,hV2,H.sx,rfl,⟨rfl,Nat.le_refl _,hb.cells⟩⟩
structure EG (W V:World) (o:Option (List Nat)) (v:Value) (w':World):Prop where
 ex:∃(V':World) (r:Sl),Sub V V'∧Rel W V [] V' w'∧(match o with
  | none=>v=.tuple #[r.v,.bool false]
  | some cs=>v=.tuple #[r.v,.bool true]∧aw cb V' r cs)
theorem Xx {big:Bool} {l:List UInt8} {k:Nat} (hk:k<l.length / 2):(eS big l).drop k=sN big l k::(eS big l).drop (k+1):=by
 rw [List.drop_eq_getElem_cons (by simp [eS];omega)]
 congr 1
 simp [eS]
theorem Kw {x:Int}:x*2 ^ min (Int.toNat 10) IntKind.i64.bits=1024*x:=by
 show x*1024=_
 omega
def kL (h:Option Nat):Int:=match h with
 | none => -1
 | some u=>(u:Int)
theorem LG (hV:Sub V W) {s:Sl} {l:List UInt8} (hs:ao V s l) (hl:l.length≤1000000) (YU:l.length%2=0) (big:Bool):aj Tryz.prog 191 [s.v,.bool big].toArray W (EG W V (cI (eS big l))):=by
 have H:=Rel.start hV
 have hlen:=hs.len
 refine eV Tryz.func191 77 [0,1,4,5,6,7,8,9,10,14,31,52,57,70] ?_
 refine wk ?_
 replace H:=H.bw 21 1
 refine aK (S:=Nat×Sl×List Nat×Option Nat) ad [0,1] (fun q=>[(6,q.2.1.v),(7,iv (kL q.2.2.2)),(8,iv ((2*q.1:Nat):Int))])
  (fun q w'=>q.1≤l.length / 2∧q.2.2.1.length≤q.1∧cI (eS big l)=(cI (q.2.2.2.toList++(eS big l).drop q.1)).map (q.2.2.1++·)∧(∀u,q.2.2.2=some u→eO u)∧Rel W V [.row q.2.1 21 1 (q.2.2.1.flatMap cb)] V w') (fun q _=>l.length / 2 - q.1) (0,⟨none,0,0⟩,[],none) ?_
 conv=>whnf
 refine ⟨sB,⟨aa,Nat.le_refl _,ae,ae,H⟩,?_⟩
 clear H
 rintro ⟨k,r6,out,h⟩ w ⟨hk,gx,cB,j5,H⟩
 dsimp only at hk gx cB j5 H ⊢
 by_cases hlt:k<l.length / 2
 rotate_left
 ·have j4:(eS big l).drop k=[]:=List.drop_of_length_le (by simp [eS];omega)
  rw [j4,List.append_nil] at cB
  cases h with
  | none =>
   have e:cI (eS big l)=some out:=by rw [cB];simp [cI]
   rw [e]
   obtain ⟨V2,hV2,H,hr⟩:=Rel.aJ H (fun _=>rfl) ag
   dsimp only [kL]
   refine wk ?_
   exact ⟨V2,r6,hV2,H.sx,rfl,hr⟩
  | some u =>
   have hu:=j5 u rfl
   have e:cI (eS big l)=none:=by rw [cB];rw [show (some u).toList=[u] from rfl,vO hu [] ae];rfl
   rw [e]
   unfold eO at hu
   dsimp only [kL]
   refine wk ?_
   exact ⟨V,r6,Sub.refl _,H.sx,rfl⟩
 rw [Xx hlt] at cB
 obtain ⟨X,hX⟩:∃X,X=(eS big l).drop (k+1):=⟨_,rfl⟩
 rw [←hX] at cB
 obtain ⟨p0,c0⟩:=hs.aP (g:=bv) (fun _=>rfl) (show 2*k<l.length by omega)
 obtain ⟨p1,c1⟩:=hs.aP (g:=bv) (fun _=>rfl) (show 2*k+1<l.length by omega)
 have z0:=l[2*k].toNat_lt
 have z1:=l[2*k+1].toNat_lt
 have fZ:=qg z0 z1
 have B6:=qg z1 z0
 have mO:=Lu big l k
 obtain ⟨u,hu⟩:∃u,u=sN big l k:=⟨_,rfl⟩
 have hu2:=hu
 unfold sN at hu2
 rw [lx (show 2*k<l.length by omega),lx (show 2*k+1<l.length by omega)] at hu2
 rw [←hu] at cB mO
 refine wk ?_
 (first|refine dV 6 [] [0,1,2,3,4,5,6,7,8,9,10,11,12,13] H ?_|refine dV 8 [] [0,1,2,3,4,5,6,7,8,9,10,11,12,13] H ?_);clear H;intro w H
 refine wk ?_
 rw [k9]
 refine wk ?_
 rw [fZ]
 cases big
 ·rw [if_neg ae] at hu2
  refine wk ?_
  (first|refine dV 6 [] [0,1,2,3,4,5,6,7,8,9,10,11,12,13] H ?_|refine dV 8 [] [0,1,2,3,4,5,6,7,8,9,10,11,12,13] H ?_);clear H;intro w H
  refine wk ?_
  rw [k9]
  refine wk ?_
  rw [B6,←hu2]
  refine wk ?_
  refine (kC _ _ _ _).use ?_
  rintro v w' ⟨rfl,rfl⟩
  rw [show decide ((56320:Int)≤((u:Nat):Int)∧((u:Nat):Int)<57344)=decide (eP u) from decide_eq_decide.2 (by unfold eP;omega)]
  by_cases jv:eP u
  ·rw [decide_eq_true jv]
   cases hh:h with
   | none =>
    rw [hh] at cB
    rw [cB,show (none:Option Nat).toList++u::X=u::X from rfl,El jv]
    dsimp only [kL]
    refine wk ?_
    exact ⟨V,⟨none,0,0⟩,Sub.refl _,H.sx,rfl⟩
   | some g =>
    rw [hh] at cB j5
    have hg:=j5 g rfl
    rw [show (some g).toList++u::X=g::u::X from rfl,En hg jv] at cB
    dsimp only [kL]
    unfold eP eO at *
    obtain ⟨c,hc⟩:∃c,c=65536+1024*(g - 55296)+(u - 56320):=⟨_,rfl⟩
    rw [←hc] at cB
    refine wk ?_
    rw [Kw]
    refine H.wg ?_;clear H;intro _ w H
    replace H:=H.cj (c':=cb c) (vS aa aa)
    refine Rel.dj (f:=cb) (l:=out) (x:=c) ad rfl rfl rfl rfl rfl ag (fun _=>rfl) (List.all_eq_true.1 rfl) H (by simp;omega) aa ?_
    clear H
    intro rn w H
    refine wk ?_
    refine ⟨sB,(k+1,rn,out++[c],none),⟨rfl,rfl,congrArg (fun z=>some (iv z)) (by dsimp only;omega),trivial⟩,⟨by dsimp only;omega,by dsimp only;rw [List.length_append,List.length_singleton];omega,?_,ae,H.sx⟩,by dsimp only;omega⟩
    rw [cB,←hX]
    exact iN out [c] (cI X)
  ·rw [decide_eq_false jv]
   cases hh:h with
   | some g =>
    rw [hh] at cB j5
    have hg:=j5 g rfl
    rw [cB,show (some g).toList++u::X=g::u::X from rfl,vO hg (u::X) (fun v k e=>by cases e;exact jv)]
    dsimp only [kL]
    unfold eO at hg
    refine wk ?_
    exact ⟨V,⟨none,0,0⟩,Sub.refl _,H.sx,rfl⟩
   | none =>
    rw [hh] at cB
    rw [show (none:Option Nat).toList++u::X=u::X from rfl] at cB
    dsimp only [kL]
    refine wk ?_
    refine (kC _ _ _ _).use ?_
    rintro v w' ⟨rfl,rfl⟩
    rw [show decide ((55296:Int)≤((u:Nat):Int)∧((u:Nat):Int)<56320)=decide (eO u) from decide_eq_decide.2 (by unfold eO;omega)]
    by_cases mH:eO u
    ·rw [decide_eq_true mH]
     refine wk ?_
     refine ⟨sB,(k+1,r6,out,some u),⟨rfl,rfl,congrArg (fun z=>some (iv z)) (by dsimp only;omega),trivial⟩,⟨by dsimp only;omega,by dsimp only;omega,?_,by intro g hg;cases hg;exact mH,H.sx⟩,by dsimp only;omega⟩
     rw [cB,←hX]
     rfl
    ·rw [decide_eq_false mH]
     rw [Em jv mH] at cB
     refine H.wg ?_;clear H;intro _ w H
     replace H:=H.cj (c':=cb u) (vS aa aa)
     refine Rel.dj (f:=cb) (l:=out) (x:=u) ad rfl rfl rfl rfl rfl ag (fun _=>rfl) (List.all_eq_true.1 rfl) H (by simp;omega) aa ?_
     clear H
     intro rn w H
     refine wk ?_
     refine ⟨sB,(k+1,rn,out++[u],none),⟨rfl,rfl,congrArg (fun z=>some (iv z)) (by dsimp only;omega),trivial⟩,⟨by dsimp only;omega,by dsimp only;rw [List.length_append,List.length_singleton];omega,?_,ae,H.sx⟩,by dsimp only;omega⟩
     rw [cB,←hX]
     exact iN out [u] (cI X)
 ·rw [if_pos rfl] at hu2
  rw [←hu2]
  refine wk ?_
  refine (kC _ _ _ _).use ?_
  rintro v w' ⟨rfl,rfl⟩
  rw [show decide ((56320:Int)≤((u:Nat):Int)∧((u:Nat):Int)<57344)=decide (eP u) from decide_eq_decide.2 (by unfold eP;omega)]
  by_cases jv:eP u
  ·rw [decide_eq_true jv]
   cases hh:h with
   | none =>
    rw [hh] at cB
    rw [cB,show (none:Option Nat).toList++u::X=u::X from rfl,El jv]
    dsimp only [kL]
    refine wk ?_
    exact ⟨V,⟨none,0,0⟩,Sub.refl _,H.sx,rfl⟩
   | some g =>
    rw [hh] at cB j5
    have hg:=j5 g rfl
    rw [show (some g).toList++u::X=g::u::X from rfl,En hg jv] at cB
    dsimp only [kL]
    unfold eP eO at *
    obtain ⟨c,hc⟩:∃c,c=65536+1024*(g - 55296)+(u - 56320):=⟨_,rfl⟩
    rw [←hc] at cB
    refine wk ?_
    rw [Kw]
    refine H.wg ?_;clear H;intro _ w H
    replace H:=H.cj (c':=cb c) (vS aa aa)
    refine Rel.dj (f:=cb) (l:=out) (x:=c) ad rfl rfl rfl rfl rfl ag (fun _=>rfl) (List.all_eq_true.1 rfl) H (by simp;omega) aa ?_
    clear H
    intro rn w H
    refine wk ?_
    refine ⟨sB,(k+1,rn,out++[c],none),⟨rfl,rfl,congrArg (fun z=>some (iv z)) (by dsimp only;omega),trivial⟩,⟨by dsimp only;omega,by dsimp only;rw [List.length_append,List.length_singleton];omega,?_,ae,H.sx⟩,by dsimp only;omega⟩
    rw [cB,←hX]
    exact iN out [c] (cI X)
  ·rw [decide_eq_false jv]
   cases hh:h with
   | some g =>
    rw [hh] at cB j5
    have hg:=j5 g rfl
    rw [cB,show (some g).toList++u::X=g::u::X from rfl,vO hg (u::X) (fun v k e=>by cases e;exact jv)]
    dsimp only [kL]
    unfold eO at hg
    refine wk ?_
    exact ⟨V,⟨none,0,0⟩,Sub.refl _,H.sx,rfl⟩
   | none =>
    rw [hh] at cB
    rw [show (none:Option Nat).toList++u::X=u::X from rfl] at cB
    dsimp only [kL]
    refine wk ?_
    refine (kC _ _ _ _).use ?_
    rintro v w' ⟨rfl,rfl⟩
    rw [show decide ((55296:Int)≤((u:Nat):Int)∧((u:Nat):Int)<56320)=decide (eO u) from decide_eq_decide.2 (by unfold eO;omega)]
    by_cases mH:eO u
    ·rw [decide_eq_true mH]
     refine wk ?_
     refine ⟨sB,(k+1,r6,out,some u),⟨rfl,rfl,congrArg (fun z=>some (iv z)) (by dsimp only;omega),trivial⟩,⟨by dsimp only;omega,by dsimp only;omega,?_,by intro g hg;cases hg;exact mH,H.sx⟩,by dsimp only;omega⟩
     rw [cB,←hX]
     rfl
    ·rw [decide_eq_false mH]
     rw [Em jv mH] at cB
     refine H.wg ?_;clear H;intro _ w H
     replace H:=H.cj (c':=cb u) (vS aa aa)
     refine Rel.dj (f:=cb) (l:=out) (x:=u) ad rfl rfl rfl rfl rfl ag (fun _=>rfl) (List.all_eq_true.1 rfl) H (by simp;omega) aa ?_
     clear H
     intro rn w H
     refine wk ?_
     refine ⟨sB,(k+1,rn,out++[u],none),⟨rfl,rfl,congrArg (fun z=>some (iv z)) (by dsimp only;omega),trivial⟩,⟨by dsimp only;omega,by dsimp only;rw [List.length_append,List.length_singleton];omega,?_,ae,H.sx⟩,by dsimp only;omega⟩
     rw [cB,←hX]
     exact iN out [u] (cI X)
end
theorem TC:∀x:Nat,x<32→aV .or .u8 192 (x:Int)=((192+x:Nat):Int):=by decide +kernel
theorem TE:∀x:Nat,x<16→aV .or .u8 224 (x:Int)=((224+x:Nat):Int):=by decide +kernel
theorem TF:∀x:Nat,x<8→aV .or .u8 240 (x:Int)=((240+x:Nat):Int):=by decide +kernel
theorem TB:∀x:Nat,x<64→aV .or .u8 128 (x:Int)=((128+x:Nat):Int):=by decide +kernel
theorem MH:∀x:Nat,x<256→aV .and .u8 (x:Int) 63=((x%64:Nat):Int):=by decide +kernel
theorem rR (n:Nat):aV .or .u8 128 (aV .and .u8 (wr .u8 (n:Int)) 63)=((128+n%64:Nat):Int):=by
 rw [show wr .u8 (n:Int)=((n%256:Nat):Int) from rfl,MH _ aa,show n%256%64=n%64 by omega,TB _ aa]
theorem DR (n:Nat):(n:Int) / 2 ^ min (Int.toNat 6) IntKind.i32.bits=((n / 64:Nat):Int):=rfl
theorem Ku (n:Nat):(n:Int) / 2 ^ min (Int.toNat 12) IntKind.i32.bits=((n / 4096:Nat):Int):=rfl
theorem VO (n:Nat):(n:Int) / 2 ^ min (Int.toNat 18) IntKind.i32.bits=((n / 262144:Nat):Int):=rfl
theorem vT {n:Nat} (h:n<256):wr .u8 (n:Int)=(n:Int):=by show (n:Int)%256=_;omega
section
variable {w0 V0 V w:World} {own:List ak}
theorem MR {s:Sl} {xs:List UInt8} (H:Rel w0 V0 (.row s 5 1 (xs.flatMap ay)::own) V w) {c:Nat} (hc:bT c) (h128:¬c<128) (hl:xs.length≤1000000000) :
  aj Tryz.prog 263 [s.v,rv c].toArray w fun v w'=>∃r:Sl,v=r.v∧Rel w0 V0 (.row r 5 1 ((xs++aM c).flatMap ay)::own) V w':=by
 have hlt:=uK hc
 unfold aM
 rw [if_neg h128]
 obtain ⟨z,hz⟩:∃z:Int,z=(c:Int):=⟨_,rfl⟩
 have AV:wr .u32 z=z:=by show z%4294967296=_;omega
 show aj Tryz.prog _ [s.v,Value.int .i32 (c:Int)].toArray w _
 rw [←hz]
 refine eV Tryz.func263 78 [0,1,4,5,11,25,50] ?_
 refine wk ?_
 rw [AV]
 by_cases h2:c<2048
 ·rw [if_pos h2]
  have k1:aV .or .u8 192 (wr .u8 ((c:Int) / 2 ^ min (Int.toNat 6) IntKind.i32.bits))=((192+c / 64:Nat):Int):=by rw [DR,vT aa,TC _ aa]
  refine wk ?_
  refine H.nA ?_;clear H;intro w b1 H
  subst hz
  rw [k1,rR] at H
  replace H:=H.cj (c':=[UInt8.ofNat (192+c / 64),UInt8.ofNat (128+c%64)].flatMap ay) (by simp only [List.flatMap_cons,List.flatMap_nil,ay,bv,List.cons_append,List.nil_append,bW (show 192+c / 64<256 by omega),bW (show 128+c%64<256 by omega)])
  replace H:=H.gj (n:=2) (e:=5) (sz:=1) rfl (by simp [maxLen])
  refine wk ?_
  refine Rel.cQ (s:=s) (x:=⟨some ⟨b1,0,none⟩,2,2⟩) (xs:=xs) (ys:=[UInt8.ofNat (192+c / 64),UInt8.ofNat (128+c%64)]) H (i:=0) rfl (by simp only [List.length_cons,List.length_nil];omega) ?_
  clear H
  intro r w H
  simp only [List.set_cons_zero] at H
  refine wk ?_
  exact ⟨r,rfl,H⟩
 rw [if_neg h2]
 by_cases h3:c<65536
 ·rw [if_pos h3]
  have k1:aV .or .u8 224 (wr .u8 ((c:Int) / 2 ^ min (Int.toNat 12) IntKind.i32.bits))=((224+c / 4096:Nat):Int):=by rw [Ku,vT aa,TE _ aa]
  unfold bT at hc
  by_cases h4:c<55296
  all_goals
   refine wk ?_
   refine H.nA ?_;clear H;intro w b1 H
   subst hz
   rw [k1,DR,rR,rR] at H
   replace H:=H.cj (c':=[UInt8.ofNat (224+c / 4096),UInt8.ofNat (128+c / 64%64),UInt8.ofNat (128+c%64)].flatMap ay) (by simp only [List.flatMap_cons,List.flatMap_nil,ay,bv,List.cons_append,List.nil_append,bW (show 224+c / 4096<256 by omega),bW (show 128+c / 64%64<256 by omega),bW (show 128+c%64<256 by omega)])
   replace H:=H.gj (n:=3) (e:=5) (sz:=1) rfl (by simp [maxLen])
   refine wk ?_
   refine Rel.cQ (s:=s) (x:=⟨some ⟨b1,0,none⟩,3,3⟩) (xs:=xs) (ys:=[UInt8.ofNat (224+c / 4096),UInt8.ofNat (128+c / 64%64),UInt8.ofNat (128+c%64)]) H (i:=0) rfl (by simp only [List.length_cons,List.length_nil];omega) ?_
   clear H
   intro r w H
   simp only [List.set_cons_zero] at H
   refine wk ?_
   exact ⟨r,rfl,H⟩
 rw [if_neg h3]
 have k1:aV .or .u8 240 (wr .u8 ((c:Int) / 2 ^ min (Int.toNat 18) IntKind.i32.bits))=((240+c / 262144:Nat):Int):=by rw [VO,vT aa,TF _ aa]
 refine wk ?_
 refine H.nA ?_;clear H;intro w b1 H
 subst hz
 rw [k1,Ku,DR,rR,rR,rR] at H
 replace H:=H.cj (c':=[UInt8.ofNat (240+c / 262144),UInt8.ofNat (128+c / 4096%64),UInt8.ofNat (128+c / 64%64),UInt8.ofNat (128+c%64)].flatMap ay) (by simp only [List.flatMap_cons,List.flatMap_nil,ay,bv,List.cons_append,List.nil_append,bW (show 240+c / 262144<256 by omega),bW (show 128+c / 4096%64<256 by omega),bW (show 128+c / 64%64<256 by omega),bW (show 128+c%64<256 by omega)])
 replace H:=H.gj (n:=4) (e:=5) (sz:=1) rfl (by simp [maxLen])
 refine wk ?_
 refine Rel.cQ (s:=s) (x:=⟨some ⟨b1,0,none⟩,4,4⟩) (xs:=xs) (ys:=[UInt8.ofNat (240+c / 262144),UInt8.ofNat (128+c / 4096%64),UInt8.ofNat (128+c / 64%64),UInt8.ofNat (128+c%64)]) H (i:=0) rfl (by simp only [List.length_cons,List.length_nil];omega) ?_
 clear H
 intro r w H
 simp only [List.set_cons_zero] at H
 refine wk ?_
 exact ⟨r,rfl,H⟩
theorem th {s:Sl} {xs:List UInt8} (H:Rel w0 V0 (.row s 5 1 (xs.flatMap ay)::own) V w) {c:Nat} (hc:bT c) (hl:xs.length≤1000000000) :
  aj Tryz.prog 193 [s.v,rv c].toArray w fun v w'=>∃r:Sl,v=r.v∧Rel w0 V0 (.row r 5 1 ((xs++aM c).flatMap ay)::own) V w':=by
 have hlt:=uK hc
 have AV:wr .u32 (c:Int)=(c:Int):=by show (c:Int)%4294967296=_;omega
 refine eV Tryz.func193 16 [0,1,4,7] ?_
 refine wk ?_
 rw [AV]
 by_cases h1:c<128
 ·unfold aM
  rw [if_pos h1]
  refine wk ?_
  refine H.nA ?_;clear H;intro w b1 H
  rw [vT (show c<256 by omega)] at H
  replace H:=H.cj (c':=[UInt8.ofNat c].flatMap ay) (by simp only [List.flatMap_cons,List.flatMap_nil,ay,bv,List.cons_append,List.nil_append,bW (show c<256 by omega)])
  replace H:=H.gj (n:=1) (e:=5) (sz:=1) rfl (by simp [maxLen])
  refine wk ?_
  refine Rel.cQ (s:=s) (x:=⟨some ⟨b1,0,none⟩,1,1⟩) (xs:=xs) (ys:=[UInt8.ofNat c]) H (i:=0) rfl (by simp only [List.length_cons,List.length_nil];omega) ?_
  clear H
  intro r w H
  simp only [List.set_cons_zero] at H
  refine wk ?_
  exact ⟨r,rfl,H⟩
 refine wk ?_
 refine (MR H hc h1 hl).use ?_
 clear H
 rintro v w ⟨r,rfl,H⟩
 refine wk ?_
 exact ⟨r,rfl,H⟩
end
theorem XV (a:Nat):(a<128∧eF a=1∧il a=a)∨(128≤a∧a<192∧eF a=0∧il a=0)∨(192≤a∧a<224∧eF a=2∧il a=a - 192)∨(224≤a∧a<240∧eF a=3∧il a=a - 224)∨(240≤a∧eF a=4∧il a=a - 240):=by
 unfold eF il
 by_cases h1:a<128
 ·rw [if_pos h1,if_pos h1];left;exact ⟨h1,rfl,rfl⟩
 rw [if_neg h1,if_neg h1]
 by_cases h2:a<192
 ·rw [if_pos h2,if_pos h2];right;left;exact ⟨aa,h2,rfl,rfl⟩
 rw [if_neg h2,if_neg h2]
 by_cases h3:a<224
 ·rw [if_pos h3,if_pos h3];right;right;left;exact ⟨aa,h3,rfl,rfl⟩
 rw [if_neg h3,if_neg h3]
 by_cases h4:a<240
 ·rw [if_pos h4,if_pos h4];right;right;right;left;exact ⟨aa,h4,rfl,rfl⟩
 rw [if_neg h4,if_neg h4]
 right;right;right;right;exact ⟨aa,rfl,rfl⟩
theorem Ej (c:Nat):(c<128∧fE c=1)∨(128≤c∧c<2048∧fE c=2)∨(2048≤c∧c<65536∧fE c=3)∨(65536≤c∧fE c=4):=by
 unfold fE
 by_cases h1:c<128
 ·rw [if_pos h1];exact .inl ⟨h1,rfl⟩
 rw [if_neg h1]
 by_cases h2:c<2048
 ·rw [if_pos h2];exact .inr (.inl ⟨aa,h2,rfl⟩)
 rw [if_neg h2]
 by_cases h3:c<65536
 ·rw [if_pos h3];exact .inr (.inr (.inl ⟨aa,h3,rfl⟩))
 rw [if_neg h3]
 exact .inr (.inr (.inr ⟨aa,rfl⟩))
theorem WM {l:List UInt8} (h1:ep l 1):∀j,j<2→0<j→ep l j:=fun j hj eM=>by
 obtain rfl:j=1:=aa
 exact h1
theorem WN {l:List UInt8} (h1:ep l 1) (h2:ep l 2):∀j,j<3→0<j→ep l j:=fun j hj eM=>by
 obtain rfl|rfl:j=1∨j=2:=aa
 ·exact h1
 ·exact h2
theorem WO {l:List UInt8} (h1:ep l 1) (h2:ep l 2) (h3:ep l 3):∀j,j<4→0<j→ep l j:=fun j hj eM=>by
 obtain rfl|rfl|rfl:j=1∨j=2∨j=3:=aa
 ·exact h1
 ·exact h2
 ·exact h3
theorem F5 {l:List UInt8} (hne:l≠[]):Lib.decodeN l.length (at8 l 0) (at8 l 1) (at8 l 2) (at8 l 3)=match jW l with
  | some x=>x
  | none=>(65533,1):=by
 have hl:=List.length_pos_iff.2 hne
 have b0:at8 l 0<256:=UInt8.toNat_lt _
 have b1:at8 l 1<256:=UInt8.toNat_lt _
 have b2:at8 l 2<256:=UInt8.toNat_lt _
 have b3:at8 l 3<256:=UInt8.toNat_lt _
 unfold jW
 rcases XV (at8 l 0) with ⟨h1,hw,hh⟩|⟨h1,h2,hw,hh⟩|⟨h1,h2,hw,hh⟩|⟨h1,h2,hw,hh⟩|⟨h1,hw,hh⟩
 ·have hr:fP l=at8 l 0:=by unfold fP;rw [hw,hh];rfl
  rw [hr,hw]
  rw [if_pos ⟨ag,aa,fun j hj eM=>by omega,by unfold bT;omega,by unfold fE;rw [if_pos h1]⟩]
  unfold Lib.decodeN
  rw [if_pos h1]
 ·rw [hw,if_neg (fun k=>by have:=k.pos;omega)]
  exact Lib.decodeN_bad _ _ _ _ _ (.inl ⟨h1,aa⟩)
 ·have hr:fP l=64*(at8 l 0 - 192)+(at8 l 1 - 128):=by unfold fP;rw [hw,hh];exact zV _ _
  have hn:=Ej (fP l)
  rw [hw]
  unfold Lib.decodeN
  rw [if_neg aa]
  by_cases hk:sW l (fP l) 2
  ·rw [if_pos hk]
   obtain ⟨_,k2,k3,k4,k5⟩:=hk
   obtain ⟨t1,t2⟩:=k3 1 ag ag
   rw [if_pos aa,if_pos aa]
   exact Prod.ext (by simp only;omega) rfl
  ·rw [if_neg hk]
   by_cases hc:at8 l 0 / 32=6∧1<l.length∧at8 l 1 / 64=2
   ·rw [if_pos hc]
    by_cases hc2:at8 l 0%32*64+at8 l 1%64≥128
    ·exact absurd ⟨ag,aa,WM (by unfold ep;omega),by unfold bT;omega,aa⟩ hk
    ·rw [if_neg hc2]
   ·rw [if_neg hc,if_neg aa,if_neg aa]
 ·have hr:fP l=64*(64*(at8 l 0 - 224)+(at8 l 1 - 128))+(at8 l 2 - 128):=by unfold fP;rw [hw,hh];exact zW _ _
  have hn:=Ej (fP l)
  rw [hw]
  unfold Lib.decodeN
  rw [if_neg aa,if_neg aa]
  by_cases hk:sW l (fP l) 3
  ·rw [if_pos hk]
   obtain ⟨_,k2,k3,k4,k5⟩:=hk
   obtain ⟨t1,t2⟩:=k3 1 ag ag
   obtain ⟨t3,t4⟩:=k3 2 ag ag
   unfold bT at k4
   rw [if_pos aa,if_pos aa]
   exact Prod.ext (by simp only;omega) rfl
  ·rw [if_neg hk]
   by_cases hc:at8 l 0 / 16=14∧(1<l.length∧at8 l 1 / 64=2)∧(2<l.length∧at8 l 2 / 64=2)
   ·rw [if_pos hc]
    by_cases hc2:at8 l 0%16*4096+at8 l 1%64*64+at8 l 2%64≥2048∧(at8 l 0%16*4096+at8 l 1%64*64+at8 l 2%64<55296∨(57344≤at8 l 0%16*4096+at8 l 1%64*64+at8 l 2%64∧at8 l 0%16*4096+at8 l 1%64*64+at8 l 2%64≤1114111))
    ·exact absurd ⟨ag,aa,WN (by unfold ep;omega) (by unfold ep;omega),by unfold bT;omega,aa⟩ hk
    ·rw [if_neg hc2]
   ·rw [if_neg hc,if_neg aa]
 ·have hr:fP l=64*(64*(64*(at8 l 0 - 240)+(at8 l 1 - 128))+(at8 l 2 - 128))+(at8 l 3 - 128):=by unfold fP;rw [hw,hh];exact zX _ _
  have hn:=Ej (fP l)
  rw [hw]
  unfold Lib.decodeN
  rw [if_neg aa,if_neg aa,if_neg aa]
  by_cases hk:sW l (fP l) 4
  ·rw [if_pos hk]
   obtain ⟨_,k2,k3,k4,k5⟩:=hk
   obtain ⟨t1,t2⟩:=k3 1 ag ag
   obtain ⟨t3,t4⟩:=k3 2 ag ag
   obtain ⟨t5,t6⟩:=k3 3 ag ag
   unfold bT at k4
   rw [if_pos aa,if_pos aa]
   exact Prod.ext (by simp only;omega) rfl
  ·rw [if_neg hk]
   by_cases hc:at8 l 0 / 8=30∧(1<l.length∧at8 l 1 / 64=2)∧(2<l.length∧at8 l 2 / 64=2)∧(3<l.length∧at8 l 3 / 64=2)
   ·rw [if_pos hc]
    by_cases hc2:at8 l 0%8*262144+at8 l 1%64*4096+at8 l 2%64*64+at8 l 3%64≥65536∧(at8 l 0%8*262144+at8 l 1%64*4096+at8 l 2%64*64+at8 l 3%64<55296∨(57344≤at8 l 0%8*262144+at8 l 1%64*4096+at8 l 2%64*64+at8 l 3%64∧at8 l 0%8*262144+at8 l 1%64*4096+at8 l 2%64*64+at8 l 3%64≤1114111))
    ·exact absurd ⟨ag,aa,WO (by unfold ep;omega) (by unfold ep;omega) (by unfold ep;omega),by unfold bT;omega,aa⟩ hk
    ·rw [if_neg hc2]
   ·rw [if_neg hc]
theorem lE (l:List UInt8) (i:Nat):(l.getD i 0).toNat=at8 l i:=by simp [at8,List.getD_eq_getElem?_getD]
theorem vQ:∀(n:Nat) {l:List UInt8},l.length≤n→Lib.validD l=(chars l).isSome
 | 0,l,h=>by
  have:l=[]:=List.eq_nil_of_length_eq_zero aa
  subst this
  rfl
 | n+1,l,h=>by
  by_cases hn:l=[]
  ·subst hn;rfl
  rw [Lib.validD_step l hn,Lib.decodeL_N,lE,lE,lE,lE,F5 hn,wE hn]
  cases hc:jW l with
  | none=>simp
  | some x =>
   obtain ⟨c,k⟩:=x
   obtain ⟨q0,q1,q2,_⟩:=qY hc
   have hu:=kv c
   simp only
   have QY:¬(c=65533∧k=1):=fun ⟨e1,e2⟩=>by
    rw [e1] at q1
    rw [e2] at q1
    revert q1
    decide
   rw [if_neg QY,vQ n (by rw [List.length_drop];omega)]
   cases chars (l.drop k)<;>rfl
theorem KO (l:List UInt8):(⟨l.toArray⟩:ByteArray).data.toList=l:=ae
theorem AU {l:List UInt8} {i c n:Nat} (h:jW (l.drop i)=some (c,n)):Utf8.decode ⟨l.toArray⟩ i=(c,n):=by
 have hne:l.drop i≠[]:=by
  intro e
  rw [e] at h
  obtain ⟨_,q1,q2,_⟩:=qY h
  have:=kv c
  simp at q2
  omega
 have key:∀k,((⟨l.toArray⟩:ByteArray).data.toList.getD (i+k) 0).toNat=at8 (l.drop i) k:=fun k=>by
  rw [KO,lE]
  simp [at8,List.getElem?_drop]
 have k0:=key 0
 rw [Nat.add_zero] at k0
 rw [Lib.decode_N,k0,key,key,key,KO,←List.length_drop,F5 hne,h]
theorem qK {x:Nat} (hx:x<256) {p:Int} (q:Nat) (hp:p=(q:Int)) (hq:q≤72057594037927936):wr .u64 (wr .u64 (x:Int)*p)=((x*q:Nat):Int):=by
 subst hp
 have:x*q≤255*72057594037927936:=Nat.mul_le_mul aa hq
 show ((x:Int)%18446744073709551616*q)%18446744073709551616=_
 rw [show (x:Int)%18446744073709551616=x by omega,←Int.natCast_mul]
 omega
theorem XY {x:Nat} (hx:x<18446744073709551616):wr .u64 (x:Int)=x:=by show (x:Int)%18446744073709551616=_;omega
theorem MJ:∀x:Nat,x<256→aV .and .u8 (x:Int) 7=((x%8:Nat):Int):=by decide +kernel
def yK (T:List TD) (ops:List Oper) (xs ys:List Nat):List Nat→Bool
 | []=>true
 | x::r=>(match ops[x]? with
  | some ox=>r.all fun i=>(match ops[i]? with
   | some oi=>nC T ops.toArray xs ys x ox i oi
   | none=>false)||(hH ops ops.length i).contains x
  | none=>false)&&yK T ops xs ys r
theorem Jw (T:List TD) (ops:List Oper) (xs ys:List Nat):∀r,yK T ops xs ys r=kX T ops xs ys r
 | []=>rfl
 | x::r=>by
  unfold yK kX
  rw [Jw T ops xs ys r]
  congr 1
  cases ops[x]? with
  | none=>rfl
  | some ox =>
   simp only
   congr 1
   funext i
   exact Bool.or_comm _ _
def CZ (T:List TD) (ops:List Oper) (xs ys π:List Nat):Bool :=
 ku ops π&&yK T ops xs ys π&&((List.range ops.length).all fun i=>π.contains i)&&decide (π.length=ops.length)&&decide π.Nodup&&π.all fun i=>decide (i<ops.length)
theorem TI (T:List TD) (ops:List Oper) (xs ys π:List Nat):CZ T ops xs ys π=qh T ops xs ys π:=by
 unfold CZ qh
 rw [Jw]
theorem az {C:Cx} (hT:aQ C.P C.T) (hm:C.P.follows .mixedOrders=true) {id:Nat} {ops:Array Oper} {env:Env} {ds:List Deferred} {w:World} {Q:dU} (xs π:List Nat)
  (hok:CZ C.T ops.toList xs π π=true)
  (h:∀w1,sX w w1→qE C ops.toList xs π env w1 (fun au w'=>iT au C.live fun e'=>Q .normal e' ds w') (fun ch w'=>Q (.panic ch) [] ds w')) :
  aB C (.region id ops true) env ds w Q:=Ge hT hm xs π (by rw [←TI];exact hok) h
structure Mz (W V:World) (n:Nat) (v:Value) (w':World):Prop where
 v:v=.int .u64 (n:Int)
 rel:Rel W V [] V w'
section
variable {V W:World}
theorem qJ (hV:Sub V W) {s:Sl} {l:List UInt8} (hs:ao V s l) (h8:8≤l.length):aj Tryz.prog 204 [s.v].toArray W (Mz W V (Lib.leNat (l.take 8))):=by
 have H:=Rel.start hV
 have hlen:=hs.len
 obtain ⟨a0,a1,a2,a3,a4,a5,a6,a7,r,rfl⟩:∃a0 a1 a2 a3 a4 a5 a6 a7 r,l=a0::a1::a2::a3::a4::a5::a6::a7::r:=by
  match l,h8 with
  | a0::a1::a2::a3::a4::a5::a6::a7::r,_=>exact ⟨_,_,_,_,_,_,_,_,_,rfl⟩
 obtain ⟨p0,c0⟩:=hs.aP (g:=bv) (i:=0) (fun _=>rfl) aa
 obtain ⟨_,c1⟩:=hs.aP (g:=bv) (i:=1) (fun _=>rfl) aa
 obtain ⟨_,c2⟩:=hs.aP (g:=bv) (i:=2) (fun _=>rfl) aa
 obtain ⟨_,c3⟩:=hs.aP (g:=bv) (i:=3) (fun _=>rfl) aa
 obtain ⟨_,c4⟩:=hs.aP (g:=bv) (i:=4) (fun _=>rfl) aa
 obtain ⟨_,c5⟩:=hs.aP (g:=bv) (i:=5) (fun _=>rfl) aa
 obtain ⟨_,c6⟩:=hs.aP (g:=bv) (i:=6) (fun _=>rfl) aa
 obtain ⟨_,c7⟩:=hs.aP (g:=bv) (i:=7) (fun _=>rfl) aa
 simp only [List.getElem_cons_zero,List.getElem_cons_succ] at c0 c1 c2 c3 c4 c5 c6 c7
 have z0:=a0.toNat_lt
 have z1:=a1.toNat_lt
 have z2:=a2.toNat_lt
 have z3:=a3.toNat_lt
 have z4:=a4.toNat_lt
 have z5:=a5.toNat_lt
 have z6:=a6.toNat_lt
 have z7:=a7.toNat_lt
 refine eV Tryz.func204 71 [0,2] ?_
 refine wk ?_
 (first|refine dV 1 [] [0,1,2,3,4,5,6,7,8,9,10,11,12,13,14,15,16,17,18,19,20,21,22] H ?_|refine dV 2 [] [0,1,2,3,4,5,6,7,8,9,10,11,12,13,14,15,16,17,18,19,20,21,22,23,24,25,26,27,28,29,30,31,32,33,34,35,36,37,38,39,40,41,42,43,44,45,46] H ?_);clear H;intro w H
 refine wk ?_
 have w1:=qK z1 (p:=2 ^ min (Int.toNat 8) IntKind.u64.bits) 256 ag ag
 have w2:=qK z2 (p:=2 ^ min (Int.toNat 16) IntKind.u64.bits) 65536 ag ag
 have w3:=qK z3 (p:=2 ^ min (Int.toNat 24) IntKind.u64.bits) 16777216 ag ag
 have w4:=qK z4 (p:=2 ^ min (Int.toNat 32) IntKind.u64.bits) 4294967296 ag ag
 have w5:=qK z5 (p:=2 ^ min (Int.toNat 40) IntKind.u64.bits) 1099511627776 ag ag
 have w6:=qK z6 (p:=2 ^ min (Int.toNat 48) IntKind.u64.bits) 281474976710656 ag ag
 have w7:=qK z7 (p:=2 ^ min (Int.toNat 56) IntKind.u64.bits) 72057594037927936 ag ag
 rw [XY (show a0.toNat<18446744073709551616 by omega),w1,w2,w3,w4,w5,w6,w7]
 have o1:=oq (u:=a0.toNat) (x:=a1.toNat) (j:=8) (by simp only [Nat.reducePow];omega) (by simp only [Nat.reducePow];omega) aa
 have o2:=oq (u:=a0.toNat+a1.toNat*256) (x:=a2.toNat) (j:=16) (by simp only [Nat.reducePow];omega) (by simp only [Nat.reducePow];omega) aa
 have o3:=oq (u:=a0.toNat+a1.toNat*256+a2.toNat*65536) (x:=a3.toNat) (j:=24) (by simp only [Nat.reducePow];omega) (by simp only [Nat.reducePow];omega) aa
 have o4:=oq (u:=a0.toNat+a1.toNat*256+a2.toNat*65536+a3.toNat*16777216) (x:=a4.toNat) (j:=32) (by simp only [Nat.reducePow];omega) (by simp only [Nat.reducePow];omega) aa
 have o5:=oq (u:=a0.toNat+a1.toNat*256+a2.toNat*65536+a3.toNat*16777216+a4.toNat*4294967296) (x:=a5.toNat) (j:=40) (by simp only [Nat.reducePow];omega) (by simp only [Nat.reducePow];omega) aa
 have o6:=oq (u:=a0.toNat+a1.toNat*256+a2.toNat*65536+a3.toNat*16777216+a4.toNat*4294967296+a5.toNat*1099511627776) (x:=a6.toNat) (j:=48) (by simp only [Nat.reducePow];omega) (by simp only [Nat.reducePow];omega) aa
 have o7:=oq (u:=a0.toNat+a1.toNat*256+a2.toNat*65536+a3.toNat*16777216+a4.toNat*4294967296+a5.toNat*1099511627776+a6.toNat*281474976710656) (x:=a7.toNat) (j:=56) (by simp only [Nat.reducePow];omega) (by simp only [Nat.reducePow];omega) aa
 simp only [Nat.reducePow] at o1 o2 o3 o4 o5 o6 o7
 rw [o1,o2,o3,o4,o5,o6,o7]
 refine ⟨congrArg (fun z:Nat=>Value.int .u64 (z:Int)) ?_,H⟩
 simp only [List.take_succ_cons,List.take_zero,Lib.leNat]
 omega
theorem o0 {s:Sl} {l:List UInt8} (h:ao V s l) {i:Nat} (hi:i<l.length):Plain s.a∧V.cell? ⟨aN s.a,aI s.a+i,none⟩=some (.int .u8 (at8 l i:Nat)):=by
 obtain ⟨p,c⟩:=h.aP (g:=bv) (fun _=>rfl) hi
 rw [lx hi]
 exact ⟨p,c⟩
theorem ao.full {s:Sl} {l:List UInt8} (h:ao V s l):ao V ⟨aD s.a 0 s.len 1,s.len,s.len⟩ l:=by
 refine ⟨h.len,Nat.le_refl _,fun hne=>?_,fun j v hj=>?_⟩
 ·have hp:Plain s.a:=h.cells.1 hne
  exact (qy hp:Plain (aD s.a 0 s.len 1))
 ·have hp:Plain s.a:=h.cells.1 (fun e=>by rw [e] at hj;simp at hj)
  have hc:=h.cells.2 j v hj
  have ho:aI (aD s.a 0 s.len 1)=aI s.a:=by
   by_cases hz:s.len=0
   ·unfold aD;rw [if_pos hz]
   ·rw [qx hp hz,Nat.zero_mul,Nat.add_zero]
  show V.cell? ⟨aN (aD s.a 0 s.len 1),aI (aD s.a 0 s.len 1)+j,none⟩=some v
  rw [qw,ho]
  exact hc
theorem Ny:∀(n:Nat) {L:List UInt8},n≤L.length→(∀b∈L.take n,b.toNat<128)→(chars L).isSome=(chars (L.drop n)).isSome:=fun n L _ h=>by
 rw [←vQ _ (Nat.le_refl _),←vQ _ (Nat.le_refl _)]
 exact Lib.validD_ascii n L h
theorem qH {L:List UInt8} (h8:8≤L.length) (hz:Lib.leNat (L.take 8) &&& 9259542123273814144=0):∀b∈L.take 8,b.toNat<128:=by
 have:=Lib.leNat_mask (L.take 8)
 rw [List.length_take,Nat.min_eq_left h8,Lib.maskN8] at this
 exact this.1 hz
theorem qI (L:List UInt8):Lib.leNat (L.take 8)<18446744073709551616:=by
 have h:=Lib.leNat_lt (L.take 8)
 have:(L.take 8).length≤8:=by rw [List.length_take];omega
 have h2:256 ^ (L.take 8).length≤256 ^ 8:=Nat.pow_le_pow_right ag this
 simp only [Nat.reducePow] at h2
 omega
abbrev uk:Nat:=9259542123273814144
theorem Ab {a:Nat} (h:a<18446744073709551616):aV .and .u64 (a:Int) 9259542123273814144=((a &&& uk:Nat):Int):=u64_and_nat a uk h ag
theorem yF {a b:Nat} (h:a<18446744073709551616) (k:b<18446744073709551616):aV .or .u64 (a:Int) (b:Int)=((a ||| b:Nat):Int):=u64_or_nat a b h k
theorem sd {a b:Nat} (h:a<18446744073709551616) (k:b<18446744073709551616):a ||| b<18446744073709551616:=Nat.or_lt_two_pow (n:=64) h k
theorem wo {L:List UInt8} {m n:Nat} (h:∀b∈L.take m,b.toNat<128) (k:∀b∈(L.drop m).take n,b.toNat<128):∀b∈L.take (m+n),b.toNat<128:=by
 rw [List.take_add]
 intro b hb
 rcases List.mem_append.1 hb with hb|hb
 ·exact h b hb
 ·exact k b hb
structure qQ (V:World) (l:List UInt8) (p:Sl) (L:List UInt8):Prop where
 ia:ao V p L
 le:L.length≤l.length
 same:(chars l).isSome=(chars L).isSome
theorem qQ.rest {l L:List UInt8} {p:Sl} (h:qQ V l p L) {n:Nat} (hn:n≤L.length) (ha:∀b∈L.take n,b.toNat<128):qQ V l ⟨aD p.a n p.cap 1,p.len - n,p.cap - n⟩ (L.drop n):=by
 have h1:=h.ia.len
 have h2:=h.ia.cap
 refine ⟨?_,by rw [List.length_drop];have:=h.le;omega,by rw [h.same,Ny n hn ha]⟩
 have:=h.ia.sub (n:=1) (fun _=>rfl) (a:=n) (b:=p.len) aa aa
 rw [h1,List.take_length] at this
 rw [h1]
 exact this
theorem LH (hV:Sub V W) (hT:Lib.Utf8Tabs 0 1 V) {s:Sl} {l:List UInt8} (hs:ao V s l) (hl:l.length≤1000000000):aj Tryz.prog 126 [s.v].toArray W fun v w'=>v=.bool (chars l).isSome∧Rel W V [] V w':=by
 have H:=Rel.start hV
 have hlen:=hs.len
 have nS:=hs.cap
 refine eV Tryz.func126 188 [0,2,3,4,5,6,15,20,31,46,69,82,83,103,106,138,141,185] ?_
 refine wk ?_
 refine aK (S:=Sl×List UInt8) ad [] (fun q=>[(0,q.1.v)]) (fun q w'=>qQ V l q.1 q.2∧Rel W V [] V w') (fun q _=>q.2.length) (⟨aD s.a 0 s.len 1,s.len,s.len⟩,l) ?_
 conv=>whnf
 refine ⟨sB,⟨⟨hs.full,Nat.le_refl _,rfl⟩,H⟩,?_⟩
 clear H
 rintro ⟨p,L⟩ w ⟨hI,H⟩
 dsimp only at hI H ⊢
 have hp:=hI.ia
 have hpl:=hp.len
 have Za:=hp.cap
 have hle:=hI.le
 by_cases hn:L=[]
 ·subst hn
  rw [List.length_nil] at hpl
  rw [hI.same]
  refine wk ?_
  exact H.sx
 have hpos:=List.length_pos_iff.2 hn
 obtain ⟨q0,c0⟩:=o0 hp (i:=0) hpos
 have z0:at8 L 0<256:=UInt8.toNat_lt _
 refine wk ?_
 by_cases P8:at8 L 0<128
 ·have tM:=hI.rest (n:=1) aa (by
   cases L with
   | nil=>simp
   | cons a r =>
    intro b hb
    simp at hb
    rw [hb]
    exact P8)
  obtain ⟨L1,xp⟩:∃L1,L1=L.drop 1:=⟨_,rfl⟩
  have YK:L1.length+1=L.length:=by rw [xp,List.length_drop];omega
  rw [←xp] at tM
  have b1:=tM.ia
  have MZ:=b1.len
  have MY:=b1.cap
  dsimp only at MZ MY
  refine wk ?_
  by_cases h8:8<L1.length
  rotate_left
  ·refine wk ?_
   exact ⟨sB,(⟨aD p.a 1 p.cap 1,p.len - 1,p.cap - 1⟩,L1),sB,⟨tM,H.sx⟩,by dsimp only;omega⟩
  refine wk ?_
  refine (qJ H.data b1 aa).use ?_
  rintro v w ⟨rfl,K⟩
  (replace H:=H.aq K)
  obtain ⟨N1,Hi⟩:∃N,N=Lib.leNat (L1.take 8):=⟨_,rfl⟩
  have Hj:=qI L1
  rw [←Hi] at Hj ⊢
  refine wk ?_
  rw [Ab Hj]
  refine wk ?_
  by_cases oa:N1 &&& uk=0
  rotate_left
  ·refine wk ?_
   exact ⟨sB,(⟨aD p.a 1 p.cap 1,p.len - 1,p.cap - 1⟩,L1),sB,⟨tM,H.sx⟩,by dsimp only;omega⟩
  have tN:=tM.rest (n:=8) aa (qH aa (by rw [←Hi];exact oa))
  obtain ⟨L2,Hd⟩:∃L2,L2=L1.drop 8:=⟨_,rfl⟩
  have YL:L2.length+8=L1.length:=by rw [Hd,List.length_drop];omega
  rw [←Hd] at tN
  have b2:=tN.ia
  have EV:=b2.len
  have M1:=b2.cap
  dsimp only at tN b2 EV M1
  refine wk ?_
  have Qb:8≤L2.length→ao V ⟨aD (aD (aD p.a 1 p.cap 1) 8 (p.cap - 1) 1) 8 (p.cap - 1 - 8) 1,(p.len - 1 - 8) - 8,(p.cap - 1 - 8) - 8⟩ (L2.drop 8):=fun h=>by
   have:=b2.sub (n:=1) (fun _=>rfl) (a:=8) (b:=L2.length) aa aa
   rw [List.take_length] at this
   rw [EV]
   exact this
  obtain ⟨B,hB⟩:∃B:Bool,B=(decide (16<L2.length)&&decide ((Lib.leNat (L2.take 8) ||| Lib.leNat ((L2.drop 8).take 8)) &&& uk=0)):=⟨_,rfl⟩
  refine aB.wQ (fun _:Unit=>[(0,.slice (aD (aD p.a 1 p.cap 1) 8 (p.cap - 1) 1) (p.len - 1 - 8) (p.cap - 1 - 8)),(46,.bool B)]) (fun _ w'=>Rel W V [] V w') ?_ ?_
  ·(first|refine fo (id:=8) ad mixed (Kv V) Kv.trans [] [] [0,1,2,3,4,6,7,5,8,9,10,11,12] [(5,[]),(8,[5])] ab ?_|refine fo (id:=10) ad mixed (Kv V) Kv.trans [] [] [0,1,2,3,4,6,7,10,11,13,14,5,8,9,12,15,16,17,18,19,20] [(5,[]),(8,[5]),(12,[5,8]),(15,[5,8,12])] ab ?_|refine fo (id:=18) ad mixed (Kv V) Kv.trans [] [] [0,1,2,3,4,5,6,7,8,9,10,11,12,13,14,15,16,17,18] [] ab ?_|refine fo (id:=22) ad mixed (Kv V) Kv.trans [] [] [0,1,2,3,4,5,6,7,8,9,10,11,12,13,14,15,16,17,18,19,20,21,22,23,24,25,26,27,28,29,30] [] ab ?_|refine fo (id:=26) ad mixed (Kv V) Kv.trans [] [] [0,1,2,3,4,5,6,7,8,9,10,11,12,13,14,15,16,17,18,19,20,21,22,23,24,25,26,27,28,29,30,31,32,33,34,35,36,37,38,39,40,41,42] [] ab ?_);intro w aG;replace H:=Rel.ext H aG.ext
   by_cases h16:16<L2.length
   ·rw [decide_eq_true h16,Bool.true_and] at hB
    obtain ⟨N2,tQ⟩:∃N,N=Lib.leNat (L2.take 8):=⟨_,rfl⟩
    obtain ⟨N3,tR⟩:∃N,N=Lib.leNat ((L2.drop 8).take 8):=⟨_,rfl⟩
    have nP:=qI L2
    have nQ:=qI (L2.drop 8)
    have Qc:=Qb aa
    have BF:8≤(L2.drop 8).length:=by rw [List.length_drop];omega
    rw [←tQ] at hB nP
    rw [←tR] at hB nQ
    rw [hB]
    repeat' (refine wk ?_;first|(first|refine Kv.go H ?_|refine Kv.go2 H (by assumption) ?_|(refine And.intro (fun w1 hkp=>?_) ?_;focus ((first|have H:=Kv.in H hkp|have H:=Kv.j9 H (by assumption) hkp);((repeat ((conv=>whnf);first|refine an ?_|refine H.ce ?_|refine H.db ?_|refine ea ?_|refine ol ?_|fail|refine cT ?_|refine cF ?_|refine cN ?_|refine cM ?_|refine H.lw ?_|refine H.ll ?_));(conv=>whnf));all_goals (first|exact ⟨rfl,rfl⟩|exact rfl)))|refine And.intro ?_ ?_|(refine H.nA ?_;clear H;intro w _ H))|(refine (qJ H.data b2 aa).use ?_;rintro v w ⟨rfl,K⟩;(replace H:=H.aq K);rw [←tQ])|(refine (qJ H.data Qc BF).use ?_;rintro v w ⟨rfl,K⟩;(replace H:=H.aq K);rw [←tR]))
    conv=>whnf
    refine ⟨rfl,(),⟨rfl,?_,trivial⟩,H.sx⟩
    rw [yF nP nQ,Ab (sd nP nQ)]
    exact congrArg (fun z=>some (Value.bool z)) (decide_eq_decide.2 aa)
   ·rw [decide_eq_false h16,Bool.false_and] at hB
    rw [hB]
    refine wk ?_
    exact ⟨(),sB,H.sx⟩
  clear H
  rintro _ w H
  cases PN:B with
  | false =>
   refine wk ?_
   exact ⟨sB,(⟨(aD (aD p.a 1 p.cap 1) 8 (p.cap - 1) 1),(p.len - 1 - 8),(p.cap - 1 - 8)⟩,L2),sB,⟨tN,H.sx⟩,by dsimp only;omega⟩
  | true =>
  rw [PN] at hB
  replace hB:=hB.symm
  simp only [Bool.and_eq_true,decide_eq_true_eq] at hB
  obtain ⟨h16,fZ⟩:=hB
  obtain ⟨B6,Q6⟩:=(Lib.or_mask _ _ _).1 fZ
  have BF:8≤(L2.drop 8).length:=by rw [List.length_drop];omega
  have Hc:=tN.rest (n:=16) aa (wo (m:=8) (n:=8) (qH aa B6) (qH BF Q6))
  obtain ⟨L3,He⟩:∃L3,L3=L2.drop 16:=⟨_,rfl⟩
  have YM:L3.length+16=L2.length:=by rw [He,List.length_drop];omega
  rw [←He] at Hc
  refine wk ?_
  refine aK (S:=Sl×List UInt8) ad [2,3,4,5,6,15,20,31,46,82,83,103,106,138,141,185] (fun q=>[(0,q.1.v)]) (fun q w'=>qQ V l q.1 q.2∧q.2.length<L.length∧Rel W V [] V w') (fun q _=>q.2.length) (⟨aD (aD (aD p.a 1 p.cap 1) 8 (p.cap - 1) 1) 16 (p.cap - 1 - 8) 1,(p.len - 1 - 8) - 16,(p.cap - 1 - 8) - 16⟩,L3) ?_
  conv=>whnf
  refine ⟨sB,⟨Hc,by dsimp only;omega,H⟩,?_⟩
  clear H
  rintro ⟨p4,L4⟩ w ⟨tO,Hf,H⟩
  dsimp only at tO Hf H ⊢
  have b4:=tO.ia
  have M3:=b4.len
  have Yb:=b4.cap
  have Yc:=tO.le
  have dJ:∀k,k≤L4.length→ao V ⟨aD p4.a k p4.cap 1,p4.len - k,p4.cap - k⟩ (L4.drop k):=fun k h=>by
   have:=b4.sub (n:=1) (fun _=>rfl) (a:=k) (b:=L4.length) h aa
   rw [List.take_length] at this
   rw [M3]
   exact this
  obtain ⟨B4,jq⟩:∃B:Bool,B=(decide (32<L4.length)&&decide (((Lib.leNat (L4.take 8) ||| Lib.leNat ((L4.drop 8).take 8)) ||| (Lib.leNat ((L4.drop 16).take 8) ||| Lib.leNat ((L4.drop 24).take 8))) &&& uk=0)):=⟨_,rfl⟩
  conv=>whnf
  refine aB.wQ (fun _:Unit=>[(0,p4.v),(46,.bool true),(69,.bool B4)]) (fun _ w'=>Rel W V [] V w') ?_ ?_
  ·(first|refine fo (id:=8) ad mixed (Kv V) Kv.trans [] [] [0,1,2,3,4,6,7,5,8,9,10,11,12] [(5,[]),(8,[5])] ab ?_|refine fo (id:=10) ad mixed (Kv V) Kv.trans [] [] [0,1,2,3,4,6,7,10,11,13,14,5,8,9,12,15,16,17,18,19,20] [(5,[]),(8,[5]),(12,[5,8]),(15,[5,8,12])] ab ?_|refine fo (id:=18) ad mixed (Kv V) Kv.trans [] [] [0,1,2,3,4,5,6,7,8,9,10,11,12,13,14,15,16,17,18] [] ab ?_|refine fo (id:=22) ad mixed (Kv V) Kv.trans [] [] [0,1,2,3,4,5,6,7,8,9,10,11,12,13,14,15,16,17,18,19,20,21,22,23,24,25,26,27,28,29,30] [] ab ?_|refine fo (id:=26) ad mixed (Kv V) Kv.trans [] [] [0,1,2,3,4,5,6,7,8,9,10,11,12,13,14,15,16,17,18,19,20,21,22,23,24,25,26,27,28,29,30,31,32,33,34,35,36,37,38,39,40,41,42] [] ab ?_);intro w aG;replace H:=Rel.ext H aG.ext
   by_cases h32:32<L4.length
   ·rw [decide_eq_true h32,Bool.true_and] at jq
    obtain ⟨N2,tQ⟩:∃N,N=Lib.leNat (L4.take 8):=⟨_,rfl⟩
    obtain ⟨N3,tR⟩:∃N,N=Lib.leNat ((L4.drop 8).take 8):=⟨_,rfl⟩
    obtain ⟨N4,Hk⟩:∃N,N=Lib.leNat ((L4.drop 16).take 8):=⟨_,rfl⟩
    obtain ⟨N5,Hl⟩:∃N,N=Lib.leNat ((L4.drop 24).take 8):=⟨_,rfl⟩
    have nP:=qI L4
    have nQ:=qI (L4.drop 8)
    have xq:=qI (L4.drop 16)
    have xr:=qI (L4.drop 24)
    have g1:=dJ 8 aa
    have g2:=dJ 16 aa
    have g3:=dJ 24 aa
    have d1:8≤(L4.drop 8).length:=by rw [List.length_drop];omega
    have d2:8≤(L4.drop 16).length:=by rw [List.length_drop];omega
    have d3:8≤(L4.drop 24).length:=by rw [List.length_drop];omega
    rw [←tQ] at jq nP
    rw [←tR] at jq nQ
    rw [←Hk] at jq xq
    rw [←Hl] at jq xr
    rw [jq]
    repeat' (refine wk ?_;first|(first|refine Kv.go H ?_|refine Kv.go2 H (by assumption) ?_|(refine And.intro (fun w1 hkp=>?_) ?_;focus ((first|have H:=Kv.in H hkp|have H:=Kv.j9 H (by assumption) hkp);((repeat ((conv=>whnf);first|refine an ?_|refine H.ce ?_|refine H.db ?_|refine ea ?_|refine ol ?_|fail|refine cT ?_|refine cF ?_|refine cN ?_|refine cM ?_|refine H.lw ?_|refine H.ll ?_));(conv=>whnf));all_goals (first|exact ⟨rfl,rfl⟩|exact rfl)))|refine And.intro ?_ ?_|(refine H.nA ?_;clear H;intro w _ H))|(refine (qJ H.data b4 aa).use ?_;rintro v w ⟨rfl,K⟩;(replace H:=H.aq K);rw [←tQ])|(refine (qJ H.data g1 d1).use ?_;rintro v w ⟨rfl,K⟩;(replace H:=H.aq K);rw [←tR])|(refine (qJ H.data g2 d2).use ?_;rintro v w ⟨rfl,K⟩;(replace H:=H.aq K);rw [←Hk])|(refine (qJ H.data g3 d3).use ?_;rintro v w ⟨rfl,K⟩;(replace H:=H.aq K);rw [←Hl]))
    conv=>whnf
    refine ⟨rfl,(),⟨rfl,rfl,?_,trivial⟩,H.sx⟩
    rw [yF nP nQ,yF xq xr,yF (sd nP nQ) (sd xq xr),Ab (sd (sd nP nQ) (sd xq xr))]
    exact congrArg (fun z=>some (Value.bool z)) (decide_eq_decide.2 aa)
   ·rw [decide_eq_false h32,Bool.false_and] at jq
    rw [jq]
    refine wk ?_
    exact ⟨(),sB,H.sx⟩
  clear H
  rintro _ w H
  cases PO:B4 with
  | false =>
   refine wk ?_
   exact ⟨sB,(p4,L4),sB,⟨tO,H.sx⟩,Hf⟩
  | true =>
  rw [PO] at jq
  replace jq:=jq.symm
  simp only [Bool.and_eq_true,decide_eq_true_eq] at jq
  obtain ⟨h32,Q7⟩:=jq
  obtain ⟨Q8,Q9⟩:=(Lib.or_mask _ _ _).1 Q7
  obtain ⟨r1,r2⟩:=(Lib.or_mask _ _ _).1 Q8
  obtain ⟨r3,r4⟩:=(Lib.or_mask _ _ _).1 Q9
  have d1:8≤(L4.drop 8).length:=by rw [List.length_drop];omega
  have d2:8≤(L4.drop 16).length:=by rw [List.length_drop];omega
  have d3:8≤(L4.drop 24).length:=by rw [List.length_drop];omega
  have a2:=wo (m:=8) (n:=8) (qH aa r1) (qH d1 r2)
  have a3:=wo (m:=16) (n:=8) a2 (qH d2 r3)
  have a4:=wo (m:=24) (n:=8) a3 (qH d3 r4)
  have PR:=tO.rest (n:=32) aa a4
  refine wk ?_
  exact ⟨sB,(⟨aD p4.a 32 p4.cap 1,p4.len - 32,p4.cap - 32⟩,L4.drop 32),sB,⟨PR,by dsimp only;rw [List.length_drop];omega,H.sx⟩,by dsimp only;rw [List.length_drop];omega⟩
 have nW:=Lib.validD_lead L hn (by rw [lE];omega)
 rw [lE,lE,lE,lE,vQ _ (Nat.le_refl _)] at nW
 have c1:=hT.1 (at8 L 0) z0
 have cS:=Lib.firstT_cases (at8 L 0)
 obtain ⟨x,hx⟩:∃x,x=Lib.firstT (at8 L 0):=⟨_,rfl⟩
 rw [←hx] at nW c1 cS
 have Rv:x<256:=aa
 obtain ⟨c2,c3⟩:=hT.2 (x / 16) aa
 obtain ⟨lo,BW⟩:∃lo,lo=Lib.accLo (x / 16):=⟨_,rfl⟩
 obtain ⟨hi,j5⟩:∃hi,hi=Lib.accHi (x / 16):=⟨_,rfl⟩
 rw [←BW] at nW c2
 rw [←j5] at nW c3
 obtain ⟨sz,hsz⟩:∃sz,sz=x%8:=⟨_,rfl⟩
 rw [←hsz] at nW
 have Yf:V.cell? ⟨0,0+at8 L 0,none⟩=some (.int .u8 (x:Int)):=by rw [Nat.zero_add];exact c1
 have Nj:V.cell? ⟨1,0+x / 16*2,none⟩=some (.int .u8 (lo:Int)):=by rw [Nat.zero_add,Nat.mul_comm];exact c2
 have Yg:V.cell? ⟨1,0+x / 16*2+1,none⟩=some (.int .u8 (hi:Int)):=by rw [Nat.zero_add,Nat.mul_comm];exact c3
 have e7:=MJ x Rv
 rw [←hsz] at e7
 refine wk ?_
 rw [e7]
 refine wk ?_
 rw [show (x:Int) / 2 ^ min (Int.toNat 4) IntKind.u8.bits=((x / 16:Nat):Int) from rfl]
 refine wk ?_
 refine H.nA ?_;clear H;intro w b6 H
 have bad:Lib.checkN L.length (at8 L 1) (at8 L 2) (at8 L 3) sz lo hi=none→(chars l).isSome=false:=fun h=>by rw [hI.same,nW,h]
 have good:∀k,k≤L.length→1≤k→Lib.checkN L.length (at8 L 1) (at8 L 2) (at8 L 3) sz lo hi=some k→qQ V l ⟨aD p.a k p.cap 1,p.len - k,p.cap - k⟩ (L.drop k):=fun k hk _ h=>by
  refine ⟨?_,by rw [List.length_drop];omega,by rw [hI.same,nW,h];exact vQ _ (Nat.le_refl _)⟩
  have:=hp.sub (n:=1) (fun _=>rfl) (a:=k) (b:=L.length) hk aa
  rw [List.take_length] at this
  rw [hpl]
  exact this
 have k1:at8 L 1<256:=UInt8.toNat_lt _
 have k2:at8 L 2<256:=UInt8.toNat_lt _
 have k3:at8 L 3<256:=UInt8.toNat_lt _
 clear nW
 by_cases s2:sz=2
 ·have u:∀ {a b c d:Nat},Lib.checkN a b c d sz lo hi=if a<2∨b<lo∨hi<b then none else some 2:=fun {a b c d}=>by unfold Lib.checkN;rw [if_pos s2]
  by_cases h2:L.length<2
  ·rw [bad (by rw [u,if_pos aa])]
   refine H.wg ?_;clear H;intro w H
   (first|refine az (id:=8) ad mixed [] [0,1,2,3,4,6,7,5,8,9,10,11,12] ab ?_|refine az (id:=10) ad mixed [] [0,1,2,3,4,6,7,10,11,13,14,5,8,9,12,15,16,17,18,19,20] ab ?_|refine az (id:=18) ad mixed [] [0,1,2,3,4,5,6,7,8,9,10,11,12,13,14,15,16,17,18] ab ?_|refine az (id:=22) ad mixed [] [0,1,2,3,4,5,6,7,8,9,10,11,12,13,14,15,16,17,18,19,20,21,22,23,24,25,26,27,28,29,30] ab ?_|refine az (id:=26) ad mixed [] [0,1,2,3,4,5,6,7,8,9,10,11,12,13,14,15,16,17,18,19,20,21,22,23,24,25,26,27,28,29,30,31,32,33,34,35,36,37,38,39,40,41,42] ab ?_);intro w aG;replace H:=Rel.ext H aG.ext
   refine wk ?_
   exact H.sx
  obtain ⟨q1,d1⟩:=o0 hp (i:=1) aa
  by_cases g1:at8 L 1<lo
  ·rw [bad (by rw [u,if_pos aa])]
   refine H.wg ?_;clear H;intro w H
   (first|refine az (id:=8) ad mixed [] [0,1,2,3,4,6,7,5,8,9,10,11,12] ab ?_|refine az (id:=10) ad mixed [] [0,1,2,3,4,6,7,10,11,13,14,5,8,9,12,15,16,17,18,19,20] ab ?_|refine az (id:=18) ad mixed [] [0,1,2,3,4,5,6,7,8,9,10,11,12,13,14,15,16,17,18] ab ?_|refine az (id:=22) ad mixed [] [0,1,2,3,4,5,6,7,8,9,10,11,12,13,14,15,16,17,18,19,20,21,22,23,24,25,26,27,28,29,30] ab ?_|refine az (id:=26) ad mixed [] [0,1,2,3,4,5,6,7,8,9,10,11,12,13,14,15,16,17,18,19,20,21,22,23,24,25,26,27,28,29,30,31,32,33,34,35,36,37,38,39,40,41,42] ab ?_);intro w aG;replace H:=Rel.ext H aG.ext
   refine wk ?_
   exact H.sx
  by_cases g2:hi<at8 L 1
  ·rw [bad (by rw [u,if_pos aa])]
   refine H.wg ?_;clear H;intro w H
   (first|refine az (id:=8) ad mixed [] [0,1,2,3,4,6,7,5,8,9,10,11,12] ab ?_|refine az (id:=10) ad mixed [] [0,1,2,3,4,6,7,10,11,13,14,5,8,9,12,15,16,17,18,19,20] ab ?_|refine az (id:=18) ad mixed [] [0,1,2,3,4,5,6,7,8,9,10,11,12,13,14,15,16,17,18] ab ?_|refine az (id:=22) ad mixed [] [0,1,2,3,4,5,6,7,8,9,10,11,12,13,14,15,16,17,18,19,20,21,22,23,24,25,26,27,28,29,30] ab ?_|refine az (id:=26) ad mixed [] [0,1,2,3,4,5,6,7,8,9,10,11,12,13,14,15,16,17,18,19,20,21,22,23,24,25,26,27,28,29,30,31,32,33,34,35,36,37,38,39,40,41,42] ab ?_);intro w aG;replace H:=Rel.ext H aG.ext
   refine wk ?_
   exact H.sx
  refine H.wg ?_;clear H;intro w H
  (first|refine az (id:=8) ad mixed [] [0,1,2,3,4,6,7,5,8,9,10,11,12] ab ?_|refine az (id:=10) ad mixed [] [0,1,2,3,4,6,7,10,11,13,14,5,8,9,12,15,16,17,18,19,20] ab ?_|refine az (id:=18) ad mixed [] [0,1,2,3,4,5,6,7,8,9,10,11,12,13,14,15,16,17,18] ab ?_|refine az (id:=22) ad mixed [] [0,1,2,3,4,5,6,7,8,9,10,11,12,13,14,15,16,17,18,19,20,21,22,23,24,25,26,27,28,29,30] ab ?_|refine az (id:=26) ad mixed [] [0,1,2,3,4,5,6,7,8,9,10,11,12,13,14,15,16,17,18,19,20,21,22,23,24,25,26,27,28,29,30,31,32,33,34,35,36,37,38,39,40,41,42] ab ?_);intro w aG;replace H:=Rel.ext H aG.ext
  refine wk ?_
  exact ⟨sB,(⟨aD p.a 2 p.cap 1,p.len - 2,p.cap - 2⟩,L.drop 2),sB,⟨good 2 aa aa (by rw [u,if_neg aa]),H.sx⟩,by dsimp only;rw [List.length_drop];omega⟩
 by_cases s3:sz=3
 ·have u:∀ {a b c d:Nat},Lib.checkN a b c d sz lo hi=if a<3∨b<lo∨hi<b∨c<128∨191<c then none else some 3:=fun {a b c d}=>by unfold Lib.checkN;rw [if_neg s2,if_pos s3]
  by_cases h2:L.length<3
  ·rw [bad (by rw [u,if_pos aa])]
   refine H.wg ?_;clear H;intro w H
   (first|refine az (id:=8) ad mixed [] [0,1,2,3,4,6,7,5,8,9,10,11,12] ab ?_|refine az (id:=10) ad mixed [] [0,1,2,3,4,6,7,10,11,13,14,5,8,9,12,15,16,17,18,19,20] ab ?_|refine az (id:=18) ad mixed [] [0,1,2,3,4,5,6,7,8,9,10,11,12,13,14,15,16,17,18] ab ?_|refine az (id:=22) ad mixed [] [0,1,2,3,4,5,6,7,8,9,10,11,12,13,14,15,16,17,18,19,20,21,22,23,24,25,26,27,28,29,30] ab ?_|refine az (id:=26) ad mixed [] [0,1,2,3,4,5,6,7,8,9,10,11,12,13,14,15,16,17,18,19,20,21,22,23,24,25,26,27,28,29,30,31,32,33,34,35,36,37,38,39,40,41,42] ab ?_);intro w aG;replace H:=Rel.ext H aG.ext
   refine wk ?_
   exact H.sx
  obtain ⟨q1,d1⟩:=o0 hp (i:=1) aa
  obtain ⟨q2,d2⟩:=o0 hp (i:=2) aa
  by_cases g1:at8 L 1<lo
  ·rw [bad (by rw [u,if_pos aa])]
   refine H.wg ?_;clear H;intro w H
   (first|refine az (id:=8) ad mixed [] [0,1,2,3,4,6,7,5,8,9,10,11,12] ab ?_|refine az (id:=10) ad mixed [] [0,1,2,3,4,6,7,10,11,13,14,5,8,9,12,15,16,17,18,19,20] ab ?_|refine az (id:=18) ad mixed [] [0,1,2,3,4,5,6,7,8,9,10,11,12,13,14,15,16,17,18] ab ?_|refine az (id:=22) ad mixed [] [0,1,2,3,4,5,6,7,8,9,10,11,12,13,14,15,16,17,18,19,20,21,22,23,24,25,26,27,28,29,30] ab ?_|refine az (id:=26) ad mixed [] [0,1,2,3,4,5,6,7,8,9,10,11,12,13,14,15,16,17,18,19,20,21,22,23,24,25,26,27,28,29,30,31,32,33,34,35,36,37,38,39,40,41,42] ab ?_);intro w aG;replace H:=Rel.ext H aG.ext
   refine wk ?_
   exact H.sx
  by_cases g2:hi<at8 L 1
  ·rw [bad (by rw [u,if_pos aa])]
   refine H.wg ?_;clear H;intro w H
   (first|refine az (id:=8) ad mixed [] [0,1,2,3,4,6,7,5,8,9,10,11,12] ab ?_|refine az (id:=10) ad mixed [] [0,1,2,3,4,6,7,10,11,13,14,5,8,9,12,15,16,17,18,19,20] ab ?_|refine az (id:=18) ad mixed [] [0,1,2,3,4,5,6,7,8,9,10,11,12,13,14,15,16,17,18] ab ?_|refine az (id:=22) ad mixed [] [0,1,2,3,4,5,6,7,8,9,10,11,12,13,14,15,16,17,18,19,20,21,22,23,24,25,26,27,28,29,30] ab ?_|refine az (id:=26) ad mixed [] [0,1,2,3,4,5,6,7,8,9,10,11,12,13,14,15,16,17,18,19,20,21,22,23,24,25,26,27,28,29,30,31,32,33,34,35,36,37,38,39,40,41,42] ab ?_);intro w aG;replace H:=Rel.ext H aG.ext
   refine wk ?_
   exact H.sx
  by_cases g3:at8 L 2<128
  ·rw [bad (by rw [u,if_pos aa])]
   refine H.wg ?_;clear H;intro w H
   (first|refine az (id:=8) ad mixed [] [0,1,2,3,4,6,7,5,8,9,10,11,12] ab ?_|refine az (id:=10) ad mixed [] [0,1,2,3,4,6,7,10,11,13,14,5,8,9,12,15,16,17,18,19,20] ab ?_|refine az (id:=18) ad mixed [] [0,1,2,3,4,5,6,7,8,9,10,11,12,13,14,15,16,17,18] ab ?_|refine az (id:=22) ad mixed [] [0,1,2,3,4,5,6,7,8,9,10,11,12,13,14,15,16,17,18,19,20,21,22,23,24,25,26,27,28,29,30] ab ?_|refine az (id:=26) ad mixed [] [0,1,2,3,4,5,6,7,8,9,10,11,12,13,14,15,16,17,18,19,20,21,22,23,24,25,26,27,28,29,30,31,32,33,34,35,36,37,38,39,40,41,42] ab ?_);intro w aG;replace H:=Rel.ext H aG.ext
   refine wk ?_
   exact H.sx
  by_cases g4:191<at8 L 2
  ·rw [bad (by rw [u,if_pos aa])]
   refine H.wg ?_;clear H;intro w H
   (first|refine az (id:=8) ad mixed [] [0,1,2,3,4,6,7,5,8,9,10,11,12] ab ?_|refine az (id:=10) ad mixed [] [0,1,2,3,4,6,7,10,11,13,14,5,8,9,12,15,16,17,18,19,20] ab ?_|refine az (id:=18) ad mixed [] [0,1,2,3,4,5,6,7,8,9,10,11,12,13,14,15,16,17,18] ab ?_|refine az (id:=22) ad mixed [] [0,1,2,3,4,5,6,7,8,9,10,11,12,13,14,15,16,17,18,19,20,21,22,23,24,25,26,27,28,29,30] ab ?_|refine az (id:=26) ad mixed [] [0,1,2,3,4,5,6,7,8,9,10,11,12,13,14,15,16,17,18,19,20,21,22,23,24,25,26,27,28,29,30,31,32,33,34,35,36,37,38,39,40,41,42] ab ?_);intro w aG;replace H:=Rel.ext H aG.ext
   refine wk ?_
   exact H.sx
  refine H.wg ?_;clear H;intro w H
  (first|refine az (id:=8) ad mixed [] [0,1,2,3,4,6,7,5,8,9,10,11,12] ab ?_|refine az (id:=10) ad mixed [] [0,1,2,3,4,6,7,10,11,13,14,5,8,9,12,15,16,17,18,19,20] ab ?_|refine az (id:=18) ad mixed [] [0,1,2,3,4,5,6,7,8,9,10,11,12,13,14,15,16,17,18] ab ?_|refine az (id:=22) ad mixed [] [0,1,2,3,4,5,6,7,8,9,10,11,12,13,14,15,16,17,18,19,20,21,22,23,24,25,26,27,28,29,30] ab ?_|refine az (id:=26) ad mixed [] [0,1,2,3,4,5,6,7,8,9,10,11,12,13,14,15,16,17,18,19,20,21,22,23,24,25,26,27,28,29,30,31,32,33,34,35,36,37,38,39,40,41,42] ab ?_);intro w aG;replace H:=Rel.ext H aG.ext
  refine wk ?_
  exact ⟨sB,(⟨aD p.a 3 p.cap 1,p.len - 3,p.cap - 3⟩,L.drop 3),sB,⟨good 3 aa aa (by rw [u,if_neg aa]),H.sx⟩,by dsimp only;rw [List.length_drop];omega⟩
 by_cases s4:sz=4
 ·have u:∀ {a b c d:Nat},Lib.checkN a b c d sz lo hi=if a<4∨b<lo∨hi<b∨c<128∨191<c∨d<128∨191<d then none else some 4:=fun {a b c d}=>by unfold Lib.checkN;rw [if_neg s2,if_neg s3,if_pos s4]
  by_cases h2:L.length<4
  ·rw [bad (by rw [u,if_pos aa])]
   refine H.wg ?_;clear H;intro w H
   (first|refine az (id:=8) ad mixed [] [0,1,2,3,4,6,7,5,8,9,10,11,12] ab ?_|refine az (id:=10) ad mixed [] [0,1,2,3,4,6,7,10,11,13,14,5,8,9,12,15,16,17,18,19,20] ab ?_|refine az (id:=18) ad mixed [] [0,1,2,3,4,5,6,7,8,9,10,11,12,13,14,15,16,17,18] ab ?_|refine az (id:=22) ad mixed [] [0,1,2,3,4,5,6,7,8,9,10,11,12,13,14,15,16,17,18,19,20,21,22,23,24,25,26,27,28,29,30] ab ?_|refine az (id:=26) ad mixed [] [0,1,2,3,4,5,6,7,8,9,10,11,12,13,14,15,16,17,18,19,20,21,22,23,24,25,26,27,28,29,30,31,32,33,34,35,36,37,38,39,40,41,42] ab ?_);intro w aG;replace H:=Rel.ext H aG.ext
   refine wk ?_
   exact H.sx
  obtain ⟨q1,d1⟩:=o0 hp (i:=1) aa
  obtain ⟨q2,d2⟩:=o0 hp (i:=2) aa
  obtain ⟨q3,d3⟩:=o0 hp (i:=3) aa
  refine H.wg ?_;clear H;intro w H
  (first|refine az (id:=8) ad mixed [] [0,1,2,3,4,6,7,5,8,9,10,11,12] ab ?_|refine az (id:=10) ad mixed [] [0,1,2,3,4,6,7,10,11,13,14,5,8,9,12,15,16,17,18,19,20] ab ?_|refine az (id:=18) ad mixed [] [0,1,2,3,4,5,6,7,8,9,10,11,12,13,14,15,16,17,18] ab ?_|refine az (id:=22) ad mixed [] [0,1,2,3,4,5,6,7,8,9,10,11,12,13,14,15,16,17,18,19,20,21,22,23,24,25,26,27,28,29,30] ab ?_|refine az (id:=26) ad mixed [] [0,1,2,3,4,5,6,7,8,9,10,11,12,13,14,15,16,17,18,19,20,21,22,23,24,25,26,27,28,29,30,31,32,33,34,35,36,37,38,39,40,41,42] ab ?_);intro w aG;replace H:=Rel.ext H aG.ext
  refine wk ?_
  refine dw (fun g1=>?_) (fun g1=>?_)
  ·rw [bad (by rw [u,if_pos aa])]
   refine wk ?_
   exact H.sx
  refine wk ?_
  refine dw (fun g2=>?_) (fun g2=>?_)
  ·rw [bad (by rw [u,if_pos aa])]
   refine wk ?_
   exact H.sx
  refine wk ?_
  refine dw (fun g3=>?_) (fun g3=>?_)
  ·rw [bad (by rw [u,if_pos aa])]
   refine wk ?_
   exact H.sx
  refine wk ?_
  refine dw (fun g4=>?_) (fun g4=>?_)
  ·rw [bad (by rw [u,if_pos aa])]
   refine wk ?_
   exact H.sx
  refine wk ?_
  refine dw (fun g5=>?_) (fun g5=>?_)
  ·rw [bad (by rw [u,if_pos aa])]
   refine wk ?_
   exact H.sx
  refine wk ?_
  refine dw (fun g6=>?_) (fun g6=>?_)
  ·rw [bad (by rw [u,if_pos aa])]
   refine wk ?_
   exact H.sx
  refine wk ?_
  exact ⟨sB,(⟨aD p.a 4 p.cap 1,p.len - 4,p.cap - 4⟩,L.drop 4),sB,⟨good 4 aa aa (by rw [u,if_neg aa]),H.sx⟩,by dsimp only;rw [List.length_drop];omega⟩
 have u:Lib.checkN L.length (at8 L 1) (at8 L 2) (at8 L 3) sz lo hi=none:=by unfold Lib.checkN;rw [if_neg s2,if_neg s3,if_neg s4]
 rw [bad u]
 refine H.wg ?_;clear H;intro w H
 exact H.sx
end
theorem j0 (o:List Nat):List.flatMap aM (o++[10])=List.flatMap aM o++[10]:=by rw [List.flatMap_append];rfl
def gU (rs:List bK) (k:Nat):List bK:=match rs with
 | []=>[(k,1)]
 | [(j,n)]=>if j=k then [(j,n+1)] else [(j,n),(k,1)]
 | r::x::rs=>r::gU (x::rs) k
theorem ve:∀(rs:List bK) (j n k:Nat),gU (rs++[(j,n)]) k=if j=k then rs++[(j,n+1)] else rs++[(j,n),(k,1)]
 | [],j,n,k=>by simp only [List.nil_append,gU]
 | [r],j,n,k=>by
  show r::gU [(j,n)] k=_
  rw [show gU [(j,n)] k=if j=k then [(j,n+1)] else [(j,n),(k,1)] from rfl]
  split<;>rfl
 | r::x::rs,j,n,k=>by
  have:=ve (x::rs) j n k
  show r::gU (x::rs++[(j,n)]) k=_
  rw [this]
  split<;>rfl
def qe (k:Nat):List bK→List bK
 | (j,n)::r=>if k=j then (j,n+1)::r else (k,1)::(j,n)::r
 | []=>[(k,1)]
theorem Kp (k:Nat) (ks:List Nat):bN (k::ks)=qe k (bN ks):=by
 rw [bN]
 cases bN ks with
 | nil=>rfl
 | cons x r=>rfl
theorem SY (a k:Nat):∀rs:List bK,qe a (gU rs k)=gU (qe a rs) k
 | []=>by
  show qe a [(k,1)]=gU [(a,1)] k
  show (if a=k then [(k,2)] else [(a,1),(k,1)])=if a=k then [(a,2)] else [(a,1),(k,1)]
  split
  ·rename_i h;rw [h]
  ·rfl
 | [(j,n)]=>by
  show qe a (if j=k then [(j,n+1)] else [(j,n),(k,1)])=gU (if a=j then [(j,n+1)] else [(a,1),(j,n)]) k
  by_cases h1:j=k<;>by_cases h2:a=j<;>simp [qe,gU,h1,h2]
  all_goals (try subst h1);(try subst h2);(try simp_all)
  all_goals (show _=(_,1)::(if _=_ then _ else _);simp)
 | (j,n)::x::rs=>by
  show qe a ((j,n)::gU (x::rs) k)=gU (if a=j then (j,n+1)::x::rs else (a,1)::(j,n)::x::rs) k
  by_cases h2:a=j
  ·rw [if_pos h2]
   show (if a=j then (j,n+1)::gU (x::rs) k else _)=_
   rw [if_pos h2]
   rfl
  ·rw [if_neg h2]
   show (if a=j then _ else (a,1)::(j,n)::gU (x::rs) k)=_
   rw [if_neg h2]
   rfl
theorem nb:∀(ks:List Nat) (k:Nat),bN (ks++[k])=gU (bN ks) k
 | [],k=>rfl
 | a::ks,k=>by rw [List.cons_append,Kp,nb ks k,Kp,SY]
theorem zp {α:Type} (l:List α):l=[]∨∃i x,l=i++[x]:=by
 rcases List.eq_nil_or_concat l with h|⟨i,x,h⟩
 ·exact .inl h
 ·exact .inr ⟨i,x,by simpa using h⟩
theorem Rel.qv {w0 V0 V w:World} {own:List ak} (H:Rel w0 V0 own V w) {i sz:Nat} {s:Sl} {e:TypeId} {xs:List Value} (hi:own[i]?=some (.row s e sz xs)) (j:Nat) (hj:j<s.len*sz) {b o:Nat} (hb:b=aN s.a) (ho:o=aI s.a+j) {v:Value} {k:World→Prop}
  (hk:∀w',Rel w0 V0 (own.set i (.row s e sz (xs.set j v))) V w'→k w'):∃c t',jd w b c t'∧cW c o [v] fun c'=>∀w',hC w b c' t' w'→k w':=by
 have hr:=H.rowAt hi
 rcases hr.at_ with ⟨_,h2,_⟩|⟨b0,cur,h1,h2,h3,h4,h5,h6⟩
 ·rw [h2,Nat.zero_mul] at hj;omega
 ·rw [h1] at hb ho
  simp only [aN,aI,Nat.zero_add] at hb ho
  subst hb ho
  have hbl:jd w b cur.toList e:=h2
  have hle:=Nat.mul_le_mul_right sz h3
  refine ⟨cur.toList,e,hbl,y8 (by rw [Array.length_toList,h5];omega) fun w' hu=>hk w' ?_⟩
  have hu':=hu
  obtain ⟨fz,cs,oa,rfl⟩:=hu.wd
  refine H.put hi rfl rfl rfl ae (fun k _ hk=>hu'.other fun e=>hk (by rw [e];simp [ak.at_,h1])) ⟨by rw [List.length_set,hr.len],.inr ⟨b,(cur.toList.set o v).toArray,h1,hu'.row hbl ae,h3,h4,by simp [h5],?_⟩⟩ fun k hk=>.inl hk
  rw [←h6]
  simp [List.take_set]
theorem zg (rs:List bK) (j n:Nat):((aC (rs++[(j,n)])).flatMap cv).set (rs.length*2+1) (iv ((n:Int)+1))=(aC (rs++[(j,n+1)])).flatMap cv:=by
 have hl:((aC rs).flatMap cv).length=rs.length*2:=by rw [jZ (n:=2) (fun _=>rfl)];simp [aC]
 unfold aC
 rw [List.map_append,List.flatMap_append,List.map_append,List.flatMap_append]
 unfold aC at hl
 rw [List.set_append_right _ _ aa,hl,show rs.length*2+1 - rs.length*2=1 by omega]
 rfl
structure Mo (W V:World) (l:List Nat) (v:Value) (w':World):Prop where
 ex:∃(V':World) (r q:Sl),Sub V V'∧Rel W V [] V' w'∧v=.tuple #[r.v,q.v]∧ao V' r ((lines l).1.flatMap aM)∧aw cv V' q (aC (bN (lines l).2))
section
variable {V W:World}
theorem Ue (hV:Sub V W) {s:Sl} {l:List Nat} (hs:aw cb V s l) (hl:l.length≤100000) (hc:∀c∈l,bT c):aj Tryz.prog 122 [s.v].toArray W (Mo W V l):=by
 have H:=Rel.start hV
 have hlen:=hs.len
 refine eV Tryz.func122 95 [0,2,3,4,5,6,7,8,12,26,33,56,78] ?_
 refine wk ?_
 replace H:=H.bw 250 2
 replace H:=H.bw 5 1
 refine aK (S:=Nat×Sl×Sl×List Nat×List Nat) ad [0,2,3] (fun q=>[(4,q.2.1.v),(5,q.2.2.1.v),(6,iv q.1)])
  (fun q w'=>q.1≤l.length∧lines l=(q.2.2.2.1++(lines (l.drop q.1)).1,q.2.2.2.2++(lines (l.drop q.1)).2)∧(q.2.2.2.1.flatMap aM).length≤4*q.1∧q.2.2.2.2.length≤q.1∧Rel W V [.row q.2.1 5 1 ((q.2.2.2.1.flatMap aM).flatMap ay),.row q.2.2.1 250 2 ((aC (bN q.2.2.2.2)).flatMap cv)] V w') (fun q _=>l.length - q.1) (0,⟨none,0,0⟩,⟨none,0,0⟩,[],[]) ?_
 conv=>whnf
 refine ⟨sB,⟨aa,rfl,Nat.le_refl _,Nat.le_refl _,H⟩,?_⟩
 clear H
 rintro ⟨i,r4,r5,o,ks⟩ w ⟨hi,eB,gx,e6,H⟩
 dsimp only at hi eB gx e6 H ⊢
 have hrl:=(na ks).2.2.2.2
 have hns:∀rs j n,bN ks=rs++[(j,n)]→n≤ks.length:=fun rs j n h=>by
  have:=(na ks).2.2.2.1
  rw [h] at this
  simp [eC] at this
  omega
 by_cases hlt:i<l.length
 rotate_left
 ·rw [List.drop_of_length_le aa] at eB
  simp only [lines,List.append_nil] at eB
  obtain ⟨V2,hV2,H,h4⟩:=Rel.aJ H (fun _=>rfl) ag
  obtain ⟨V3,ar,H,h5⟩:=Rel.aJ H (fun _=>rfl) ag
  refine wk ?_
  refine ⟨V3,r4,r5,hV2.trans ar,H.sx,rfl,?_,?_⟩
  ·rw [eB];exact h4.up ar
  ·rw [eB];exact h5
 obtain ⟨p0,c0⟩:=hs.aP (g:=rv) (fun _=>rfl) hlt
 have j4:l.drop i=l[i]::l.drop (i+1):=List.drop_eq_getElem_cons hlt
 have hch:=hc l[i] (List.getElem_mem hlt)
 obtain ⟨c,dZ⟩:∃c,c=l[i]:=⟨_,rfl⟩
 rw [←dZ] at c0 j4 hch
 rw [j4] at eB
 have Io:=kv c
 by_cases gM:c=10
 ·subst gM
  have e:=yk (l.drop (i+1))
  refine H.wg ?_;clear H;intro _ w H
  refine Rel.dj (f:=ay) (l:=o.flatMap aM) (x:=10) ad rfl rfl rfl rfl rfl ag (fun _=>rfl) (List.all_eq_true.1 rfl) H (by show ((o.flatMap aM).length+1)*1≤_;omega) aa ?_
  clear H
  intro r4 w H
  have iq:=H.dz (i:=1) rfl (fun _=>rfl) ag
  have cq:(aC (bN ks)).length=(bN ks).length:=by simp [aC]
  refine wk ?_
  rcases zp (bN ks) with aS|⟨rs,⟨j,n⟩,aS⟩
  ·rw [aS] at cq iq H
   simp only [aC,List.map_nil,List.length_nil] at cq iq
   refine H.wg ?_;clear H;intro _ w H
   refine Rel.cy (f:=cv) (l:=[]) (x:=cR (0,1)) ad rfl rfl rfl rfl rfl ag (fun _=>rfl) (List.all_eq_true.1 rfl) H ae ae ?_
   clear H
   intro r5 w H
   refine wk ?_
   refine ⟨sB,(i+1,r4,r5,o++[10],ks++[0]),⟨rfl,rfl,congrArg (fun z=>some (iv z)) (by dsimp only;omega),trivial⟩,⟨by dsimp only;omega,by dsimp only;rw [eB,e];simp,by dsimp only;rw [List.flatMap_append,List.length_append];have:([10].flatMap aM).length=1:=rfl;omega,by dsimp only;rw [List.length_append,List.length_singleton];omega,?_⟩,by dsimp only;omega⟩
   dsimp only
   rw [j0]
   rw [nb,aS]
   exact H
  ·rw [aS] at cq iq H
   rw [aS] at hrl
   simp only [List.length_append,List.length_singleton] at cq hrl
   have S5:=H.dO (i:=1) rfl (fun _=>rfl) ag
   obtain ⟨u0,u1,u2⟩:=S5.dW (g:=fun r:aR=>iv r.1) (g':=fun r:aR=>iv r.2) (fun _=>rfl) (i:=rs.length) aa
   have dG:(aC (rs++[(j,n)]))[rs.length]'(by omega)=cR (j,n):=by simp [aC]
   rw [dG] at u1 u2
   dsimp only [cR] at u1 u2
   have B2:=hns rs j n aS
   have ej:((r5.len:Int) - 1)=((rs.length:Nat):Int):=aa
   refine wk ?_
   rw [ej]
   refine wk ?_
   have hps:=nb ks 0
   rw [aS,ve] at hps
   by_cases iG:j=0
   ·rw [if_pos iG] at hps
    refine wk ?_
    rw [ej]
    refine wk ?_
    refine Rel.qv (i:=1) H rfl (rs.length*2+1) aa rfl rfl ?_
    clear H
    intro w H
    simp only [List.set_cons_succ,List.set_cons_zero] at H
    rw [zg,←hps] at H
    refine wk ?_
    refine ⟨sB,(i+1,r4,r5,o++[10],ks++[0]),⟨rfl,rfl,congrArg (fun z=>some (iv z)) (by dsimp only;omega),trivial⟩,⟨by dsimp only;omega,by dsimp only;rw [eB,e];simp,by dsimp only;rw [List.flatMap_append,List.length_append];have:([10].flatMap aM).length=1:=rfl;omega,by dsimp only;rw [List.length_append,List.length_singleton];omega,?_⟩,by dsimp only;omega⟩
    dsimp only
    rw [j0]
    exact H
   ·rw [if_neg iG] at hps
    refine H.wg ?_;clear H;intro _ w H
    refine Rel.cy (f:=cv) (l:=aC (rs++[(j,n)])) (x:=cR (0,1)) ad rfl rfl rfl rfl rfl ag (fun _=>rfl) (List.all_eq_true.1 rfl) H (by show ((aC (rs++[(j,n)])).length+1)*16≤_;omega) aa ?_
    clear H
    intro r5 w H
    rw [show aC (rs++[(j,n)])++[cR (0,1)]=aC (rs++[(j,n),(0,1)]) by simp [aC],←hps] at H
    refine wk ?_
    refine ⟨sB,(i+1,r4,r5,o++[10],ks++[0]),⟨rfl,rfl,congrArg (fun z=>some (iv z)) (by dsimp only;omega),trivial⟩,⟨by dsimp only;omega,by dsimp only;rw [eB,e];simp,by dsimp only;rw [List.flatMap_append,List.length_append];have:([10].flatMap aM).length=1:=rfl;omega,by dsimp only;rw [List.length_append,List.length_singleton];omega,?_⟩,by dsimp only;omega⟩
    dsimp only
    rw [j0]
    exact H
 by_cases Bk:c=13
 rotate_left
 ·have e:=yl gM Bk (l.drop (i+1))
  rw [e] at eB
  refine wk ?_
  refine (th H hch aa).use ?_
  clear H
  rintro v w ⟨r,rfl,H⟩
  refine wk ?_
  refine ⟨sB,(i+1,r,r5,o++[c],ks),sB,⟨by dsimp only;omega,?_,?_,by dsimp only;omega,?_⟩,by dsimp only;omega⟩
  ·dsimp only
   rw [eB]
   simp
  ·dsimp only
   rw [List.flatMap_append,List.length_append,List.flatMap_singleton,qA]
   omega
  ·dsimp only
   rw [List.flatMap_append,List.flatMap_singleton]
   exact H
 subst Bk
 by_cases mK:i+1<l.length
 rotate_left
 ·rw [List.drop_of_length_le (show l.length≤i+1 by omega)] at eB
  have e:=uO (r:=[]) ae
  have e2:l.drop (i+1)=[]:=List.drop_of_length_le aa
  rw [←e2] at eB e
  refine H.wg ?_;clear H;intro _ w H
  refine Rel.dj (f:=ay) (l:=o.flatMap aM) (x:=10) ad rfl rfl rfl rfl rfl ag (fun _=>rfl) (List.all_eq_true.1 rfl) H (by show ((o.flatMap aM).length+1)*1≤_;omega) aa ?_
  clear H
  intro r4 w H
  have iq:=H.dz (i:=1) rfl (fun _=>rfl) ag
  have cq:(aC (bN ks)).length=(bN ks).length:=by simp [aC]
  refine wk ?_
  rcases zp (bN ks) with aS|⟨rs,⟨j,n⟩,aS⟩
  ·rw [aS] at cq iq H
   simp only [aC,List.map_nil,List.length_nil] at cq iq
   refine H.wg ?_;clear H;intro _ w H
   refine Rel.cy (f:=cv) (l:=[]) (x:=cR (2,1)) ad rfl rfl rfl rfl rfl ag (fun _=>rfl) (List.all_eq_true.1 rfl) H ae ae ?_
   clear H
   intro r5 w H
   refine wk ?_
   refine ⟨sB,(i+1,r4,r5,o++[10],ks++[2]),⟨rfl,rfl,congrArg (fun z=>some (iv z)) (by dsimp only;omega),trivial⟩,⟨by dsimp only;omega,by dsimp only;rw [eB,e];simp,by dsimp only;rw [List.flatMap_append,List.length_append];have:([10].flatMap aM).length=1:=rfl;omega,by dsimp only;rw [List.length_append,List.length_singleton];omega,?_⟩,by dsimp only;omega⟩
   dsimp only
   rw [j0]
   rw [nb,aS]
   exact H
  ·rw [aS] at cq iq H
   rw [aS] at hrl
   simp only [List.length_append,List.length_singleton] at cq hrl
   have S5:=H.dO (i:=1) rfl (fun _=>rfl) ag
   obtain ⟨u0,u1,u2⟩:=S5.dW (g:=fun r:aR=>iv r.1) (g':=fun r:aR=>iv r.2) (fun _=>rfl) (i:=rs.length) aa
   have dG:(aC (rs++[(j,n)]))[rs.length]'(by omega)=cR (j,n):=by simp [aC]
   rw [dG] at u1 u2
   dsimp only [cR] at u1 u2
   have B2:=hns rs j n aS
   have ej:((r5.len:Int) - 1)=((rs.length:Nat):Int):=aa
   refine wk ?_
   rw [ej]
   refine wk ?_
   have hps:=nb ks 2
   rw [aS,ve] at hps
   by_cases iG:j=2
   ·rw [if_pos iG] at hps
    refine wk ?_
    rw [ej]
    refine wk ?_
    refine Rel.qv (i:=1) H rfl (rs.length*2+1) aa rfl rfl ?_
    clear H
    intro w H
    simp only [List.set_cons_succ,List.set_cons_zero] at H
    rw [zg,←hps] at H
    refine wk ?_
    refine ⟨sB,(i+1,r4,r5,o++[10],ks++[2]),⟨rfl,rfl,congrArg (fun z=>some (iv z)) (by dsimp only;omega),trivial⟩,⟨by dsimp only;omega,by dsimp only;rw [eB,e];simp,by dsimp only;rw [List.flatMap_append,List.length_append];have:([10].flatMap aM).length=1:=rfl;omega,by dsimp only;rw [List.length_append,List.length_singleton];omega,?_⟩,by dsimp only;omega⟩
    dsimp only
    rw [j0]
    exact H
   ·rw [if_neg iG] at hps
    refine H.wg ?_;clear H;intro _ w H
    refine Rel.cy (f:=cv) (l:=aC (rs++[(j,n)])) (x:=cR (2,1)) ad rfl rfl rfl rfl rfl ag (fun _=>rfl) (List.all_eq_true.1 rfl) H (by show ((aC (rs++[(j,n)])).length+1)*16≤_;omega) aa ?_
    clear H
    intro r5 w H
    rw [show aC (rs++[(j,n)])++[cR (2,1)]=aC (rs++[(j,n),(2,1)]) by simp [aC],←hps] at H
    refine wk ?_
    refine ⟨sB,(i+1,r4,r5,o++[10],ks++[2]),⟨rfl,rfl,congrArg (fun z=>some (iv z)) (by dsimp only;omega),trivial⟩,⟨by dsimp only;omega,by dsimp only;rw [eB,e];simp,by dsimp only;rw [List.flatMap_append,List.length_append];have:([10].flatMap aM).length=1:=rfl;omega,by dsimp only;rw [List.length_append,List.length_singleton];omega,?_⟩,by dsimp only;omega⟩
    dsimp only
    rw [j0]
    exact H
 obtain ⟨p1,c1⟩:=hs.aP (g:=rv) (fun _=>rfl) mK
 have xD:l.drop (i+1)=l[i+1]::l.drop (i+2):=List.drop_eq_getElem_cons mK
 obtain ⟨d,nU⟩:∃d,d=l[i+1]:=⟨_,rfl⟩
 rw [←nU] at c1 xD
 by_cases hd:d=10
 ·rw [hd] at c1 xD
  rw [xD] at eB
  have e:=yj (l.drop (i+2))
  refine H.wg ?_;clear H;intro _ w H
  refine Rel.dj (f:=ay) (l:=o.flatMap aM) (x:=10) ad rfl rfl rfl rfl rfl ag (fun _=>rfl) (List.all_eq_true.1 rfl) H (by show ((o.flatMap aM).length+1)*1≤_;omega) aa ?_
  clear H
  intro r4 w H
  have iq:=H.dz (i:=1) rfl (fun _=>rfl) ag
  have cq:(aC (bN ks)).length=(bN ks).length:=by simp [aC]
  refine wk ?_
  rcases zp (bN ks) with aS|⟨rs,⟨j,n⟩,aS⟩
  ·rw [aS] at cq iq H
   simp only [aC,List.map_nil,List.length_nil] at cq iq
   refine H.wg ?_;clear H;intro _ w H
   refine Rel.cy (f:=cv) (l:=[]) (x:=cR (1,1)) ad rfl rfl rfl rfl rfl ag (fun _=>rfl) (List.all_eq_true.1 rfl) H ae ae ?_
   clear H
   intro r5 w H
   refine wk ?_
   refine ⟨sB,(i+2,r4,r5,o++[10],ks++[1]),⟨rfl,rfl,congrArg (fun z=>some (iv z)) (by dsimp only;omega),trivial⟩,⟨by dsimp only;omega,by dsimp only;rw [eB,e];simp,by dsimp only;rw [List.flatMap_append,List.length_append];have:([10].flatMap aM).length=1:=rfl;omega,by dsimp only;rw [List.length_append,List.length_singleton];omega,?_⟩,by dsimp only;omega⟩
   dsimp only
   rw [j0]
   rw [nb,aS]
   exact H
  ·rw [aS] at cq iq H
   rw [aS] at hrl
   simp only [List.length_append,List.length_singleton] at cq hrl
   have S5:=H.dO (i:=1) rfl (fun _=>rfl) ag
   obtain ⟨u0,u1,u2⟩:=S5.dW (g:=fun r:aR=>iv r.1) (g':=fun r:aR=>iv r.2) (fun _=>rfl) (i:=rs.length) aa
   have dG:(aC (rs++[(j,n)]))[rs.length]'(by omega)=cR (j,n):=by simp [aC]
   rw [dG] at u1 u2
   dsimp only [cR] at u1 u2
   have B2:=hns rs j n aS
   have ej:((r5.len:Int) - 1)=((rs.length:Nat):Int):=aa
   refine wk ?_
   rw [ej]
   refine wk ?_
   have hps:=nb ks 1
   rw [aS,ve] at hps
   by_cases iG:j=1
   ·rw [if_pos iG] at hps
    refine wk ?_
    rw [ej]
    refine wk ?_
    refine Rel.qv (i:=1) H rfl (rs.length*2+1) aa rfl rfl ?_
    clear H
    intro w H
    simp only [List.set_cons_succ,List.set_cons_zero] at H
    rw [zg,←hps] at H
    refine wk ?_
    refine ⟨sB,(i+2,r4,r5,o++[10],ks++[1]),⟨rfl,rfl,congrArg (fun z=>some (iv z)) (by dsimp only;omega),trivial⟩,⟨by dsimp only;omega,by dsimp only;rw [eB,e];simp,by dsimp only;rw [List.flatMap_append,List.length_append];have:([10].flatMap aM).length=1:=rfl;omega,by dsimp only;rw [List.length_append,List.length_singleton];omega,?_⟩,by dsimp only;omega⟩
    dsimp only
    rw [j0]
    exact H
   ·rw [if_neg iG] at hps
    refine H.wg ?_;clear H;intro _ w H
    refine Rel.cy (f:=cv) (l:=aC (rs++[(j,n)])) (x:=cR (1,1)) ad rfl rfl rfl rfl rfl ag (fun _=>rfl) (List.all_eq_true.1 rfl) H (by show ((aC (rs++[(j,n)])).length+1)*16≤_;omega) aa ?_
    clear H
    intro r5 w H
    rw [show aC (rs++[(j,n)])++[cR (1,1)]=aC (rs++[(j,n),(1,1)]) by simp [aC],←hps] at H
    refine wk ?_
    refine ⟨sB,(i+2,r4,r5,o++[10],ks++[1]),⟨rfl,rfl,congrArg (fun z=>some (iv z)) (by dsimp only;omega),trivial⟩,⟨by dsimp only;omega,by dsimp only;rw [eB,e];simp,by dsimp only;rw [List.flatMap_append,List.length_append];have:([10].flatMap aM).length=1:=rfl;omega,by dsimp only;rw [List.length_append,List.length_singleton];omega,?_⟩,by dsimp only;omega⟩
    dsimp only
    rw [j0]
    exact H
 ·have e:=uO (r:=l.drop (i+1)) (fun k h=>by rw [xD] at h;injection h with h _;exact hd h)
  refine H.wg ?_;clear H;intro _ w H
  refine Rel.dj (f:=ay) (l:=o.flatMap aM) (x:=10) ad rfl rfl rfl rfl rfl ag (fun _=>rfl) (List.all_eq_true.1 rfl) H (by show ((o.flatMap aM).length+1)*1≤_;omega) aa ?_
  clear H
  intro r4 w H
  have iq:=H.dz (i:=1) rfl (fun _=>rfl) ag
  have cq:(aC (bN ks)).length=(bN ks).length:=by simp [aC]
  refine wk ?_
  rcases zp (bN ks) with aS|⟨rs,⟨j,n⟩,aS⟩
  ·rw [aS] at cq iq H
   simp only [aC,List.map_nil,List.length_nil] at cq iq
   refine H.wg ?_;clear H;intro _ w H
   refine Rel.cy (f:=cv) (l:=[]) (x:=cR (2,1)) ad rfl rfl rfl rfl rfl ag (fun _=>rfl) (List.all_eq_true.1 rfl) H ae ae ?_
   clear H
   intro r5 w H
   refine wk ?_
   refine ⟨sB,(i+1,r4,r5,o++[10],ks++[2]),⟨rfl,rfl,congrArg (fun z=>some (iv z)) (by dsimp only;omega),trivial⟩,⟨by dsimp only;omega,by dsimp only;rw [eB,e];simp,by dsimp only;rw [List.flatMap_append,List.length_append];have:([10].flatMap aM).length=1:=rfl;omega,by dsimp only;rw [List.length_append,List.length_singleton];omega,?_⟩,by dsimp only;omega⟩
   dsimp only
   rw [j0]
   rw [nb,aS]
   exact H
  ·rw [aS] at cq iq H
   rw [aS] at hrl
   simp only [List.length_append,List.length_singleton] at cq hrl
   have S5:=H.dO (i:=1) rfl (fun _=>rfl) ag
   obtain ⟨u0,u1,u2⟩:=S5.dW (g:=fun r:aR=>iv r.1) (g':=fun r:aR=>iv r.2) (fun _=>rfl) (i:=rs.length) aa
   have dG:(aC (rs++[(j,n)]))[rs.length]'(by omega)=cR (j,n):=by simp [aC]
   rw [dG] at u1 u2
   dsimp only [cR] at u1 u2
   have B2:=hns rs j n aS
   have ej:((r5.len:Int) - 1)=((rs.length:Nat):Int):=aa
   refine wk ?_
   rw [ej]
   refine wk ?_
   have hps:=nb ks 2
   rw [aS,ve] at hps
   by_cases iG:j=2
   ·rw [if_pos iG] at hps
    refine wk ?_
    rw [ej]
    refine wk ?_
    refine Rel.qv (i:=1) H rfl (rs.length*2+1) aa rfl rfl ?_
    clear H
    intro w H
    simp only [List.set_cons_succ,List.set_cons_zero] at H
    rw [zg,←hps] at H
    refine wk ?_
    refine ⟨sB,(i+1,r4,r5,o++[10],ks++[2]),⟨rfl,rfl,congrArg (fun z=>some (iv z)) (by dsimp only;omega),trivial⟩,⟨by dsimp only;omega,by dsimp only;rw [eB,e];simp,by dsimp only;rw [List.flatMap_append,List.length_append];have:([10].flatMap aM).length=1:=rfl;omega,by dsimp only;rw [List.length_append,List.length_singleton];omega,?_⟩,by dsimp only;omega⟩
    dsimp only
    rw [j0]
    exact H
   ·rw [if_neg iG] at hps
    refine H.wg ?_;clear H;intro _ w H
    refine Rel.cy (f:=cv) (l:=aC (rs++[(j,n)])) (x:=cR (2,1)) ad rfl rfl rfl rfl rfl ag (fun _=>rfl) (List.all_eq_true.1 rfl) H (by show ((aC (rs++[(j,n)])).length+1)*16≤_;omega) aa ?_
    clear H
    intro r5 w H
    rw [show aC (rs++[(j,n)])++[cR (2,1)]=aC (rs++[(j,n),(2,1)]) by simp [aC],←hps] at H
    refine wk ?_
    refine ⟨sB,(i+1,r4,r5,o++[10],ks++[2]),⟨rfl,rfl,congrArg (fun z=>some (iv z)) (by dsimp only;omega),trivial⟩,⟨by dsimp only;omega,by dsimp only;rw [eB,e];simp,by dsimp only;rw [List.flatMap_append,List.length_append];have:([10].flatMap aM).length=1:=rfl;omega,by dsimp only;rw [List.length_append,List.length_singleton];omega,?_⟩,by dsimp only;omega⟩
    dsimp only
    rw [j0]
    exact H
end
section
variable {V W:World}
theorem Vt (x:aR) (h1:bI x.1) (h2:bI x.2):nu V 198 [] (.agg (cv x).toArray) (dN x):=yB fun V1 W1 hV dY=>by
 have H:=Rel.start hV
 have a1:=cD h1.1 h1.2
 have a2:=cD h2.1 h2.2
 refine eV Tryz.func198 10 [0,1,2] ?_
 refine wk ?_
 refine H.nA ?_;clear H;intro w b1 H
 refine wk ?_
 (first|refine az (id:=1) ad mixed [2] [0,1,3,4,2,5,6,7] ab ?_);intro w aG;replace H:=Rel.ext H aG.ext
 refine wk ?_
 refine (eQ H.data h1).use ?_
 rintro v w ⟨r1,rfl,K⟩
 (replace H:=Rel.call H K)
 simp only [List.cons_append,List.nil_append] at H
 refine wk ?_
 refine (eQ H.data h2).use ?_
 rintro v w ⟨r2,rfl,K⟩
 (replace H:=Rel.call H K)
 simp only [List.cons_append,List.nil_append] at H
 refine wk ?_
 refine Rel.cQ (s:=r1) (x:=r2) (xs:=ax x.1) (ys:=ax x.2) H (i:=0) rfl aa ?_
 clear H
 intro rn w H
 simp only [List.set_cons_zero] at H
 refine wk ?_
 exact ⟨rn,rfl,H.sx⟩
theorem VU {V W:World} (hV:Sub V W) {s:Sl} {l:List aR} (hs:aw cv V s l) {g:FuncId} {cap:List Value} {enc:aR→List UInt8} (hone:∀x∈l,nu V g cap ((fun p=>.agg (cv p).toArray) x) (enc x)) (hll:l.length≤1099511627776) (hb:(bj enc l).length≤1099511627776) :
  aj Tryz.prog 197 [s.v,.func (.func g) #[] cap.toArray].toArray W fun v w'=>∃r:Sl,v=r.v∧Rel W V [.row r 5 1 ((bj enc l).flatMap ay)] V w':=by
 have H:=Rel.start hV
 have hlen:=hs.len
 rw [bj,List.length_append] at hb
 refine eV Tryz.func197 24 [0,1,4,5,7,11,12,13,14] ?_
 refine wk ?_
 rw [hlen]
 refine (eQ (n:=l.length) H.data (by constructor<;>omega)).use ?_
 rintro v w ⟨r0,rfl,K⟩
 replace H:=H.call K
 refine wk ?_
 refine aK (S:=Nat×Sl) ad [0,1,4,11,12] (fun k=>[(5,k.2.v),(13,iv k.1)]) (fun k w'=>k.1≤l.length∧∃V1,Sub V V1∧Rel W V [.row k.2 5 1 ((ax l.length++(l.take k.1).flatMap enc).flatMap ay)] V1 w') (fun k _=>l.length - k.1) (0,r0) ?_
 conv=>whnf
 refine ⟨sB,⟨aa,V,Sub.refl _,by simpa using H⟩,?_⟩
 clear H
 rintro ⟨k,r⟩ w ⟨hk,V1,hV1,H⟩
 dsimp only at hk H
 by_cases hlt:k<l.length
 rotate_left
 ·refine wk ?_
  rw [List.take_of_length_le aa] at H
  exact ⟨r,rfl,H.back⟩
 have hbl:=xf (enc:=enc) hlt
 obtain ⟨hp,lI,iI⟩:=(hs.up hV1).dW (g:=fun r:aR=>iv r.1) (g':=fun r:aR=>iv r.2) (fun _=>rfl) hlt
 refine H.wg ?_;clear H;intro _ _ w H
 refine (hone l[k] (List.getElem_mem hlt) V1 w hV1 H.data).use ?_
 rintro v w ⟨V2,x,hV2,rfl,hx,K⟩
 replace H:=H.call K
 simp only [List.nil_append] at H
 refine wk ?_
 refine Rel.gn H (i:=1) rfl hx (by simp only [List.length_append];omega) ?_
 clear H
 intro rn w H
 rw [xe hlt] at H
 refine wk ?_
 exact ⟨sB,(k+1,rn),sB,⟨aa,V2,hV1.trans hV2,H.sx⟩,aa⟩
theorem Pn (hV:Sub V W) {e:Nat} (he:e<5) {s:Sl} {rs:List bK} (hs:aw cv V s (aC rs)) (hl:rs.length≤100000) (ho:∀r∈rs,r.1<3∧1≤r.2∧r.2≤100000) :
  aj Tryz.prog 123 [.agg (oA e s).toArray].toArray W fun v w'=>∃r:Sl,v=r.v∧Rel W V [.row r 5 1 ((if eu e (bP rs)=true then [] else lk e rs).flatMap ay)] V w':=by
 have H:=Rel.start hV
 have cq:(aC rs).length=rs.length:=by simp [aC]
 have a1:=cD (n:=(e:Int)) aa aa
 have hpl:=ov (f:=dN) (m:=20) (l:=aC rs) aa (fun x hx=>by
  obtain ⟨y,hy,rfl⟩:=List.mem_map.1 hx
  obtain ⟨q1,q2,q3⟩:=ho y hy
  have b1:=cD (n:=(y.1:Int)) aa aa
  have b2:=cD (n:=(y.2:Int)) aa aa
  simp only [dN,List.length_append]
  omega)
 refine eV Tryz.func123 12 [0,1,2,4] ?_
 refine wk ?_
 refine H.nA ?_;clear H;intro w b1 H
 refine wk ?_
 refine (zv H.data e hs aa (fun r hr=>(ho r hr).2.1)).use ?_
 rintro v w ⟨rfl,K⟩
 (replace H:=H.aq K)
 cases ht:eu e (bP rs) with
 | true =>
  rw [if_pos rfl]
  refine wk ?_
  exact ⟨⟨none,0,0⟩,rfl,Rel.bw H.sx _ _⟩
 | false =>
  rw [if_neg ae]
  refine wk ?_
  (first|refine az (id:=3) ad mixed [2] [0,1,3,4,2,5,6,7] ab ?_);intro w aG;replace H:=Rel.ext H aG.ext
  refine wk ?_
  refine (eQ H.data (show bI ((e:Nat):Int) by constructor<;>omega)).use ?_
  rintro v w ⟨r1,rfl,K⟩
  (replace H:=Rel.call H K)
  simp only [List.cons_append,List.nil_append] at H
  refine wk ?_
  refine (VU (l:=aC rs) (enc:=dN) (g:=198) (cap:=[]) H.data hs (fun p hp=>?_) aa aa).use ?_
  ·obtain ⟨y,hy,rfl⟩:=List.mem_map.1 hp
   obtain ⟨q1,q2,q3⟩:=ho y hy
   exact Vt _ (by constructor<;>dsimp only<;>omega) (by constructor<;>dsimp only<;>omega)
  rintro v w ⟨r2,rfl,K⟩
  (replace H:=Rel.call H K)
  simp only [List.cons_append,List.nil_append] at H
  refine wk ?_
  refine Rel.cQ (s:=r1) (x:=r2) (xs:=ax (e:Int)) (ys:=bj dN (aC rs)) H (i:=0) rfl aa ?_
  clear H
  intro rn w H
  simp only [List.set_cons_zero] at H
  refine wk ?_
  exact ⟨rn,rfl,H.sx⟩
theorem Od (hV:Sub V W) {x y:Sl} {a b:List UInt8} (hx:ao V x a) (hy:ao V y b):aj Tryz.prog 192 [x.v,y.v].toArray W fun v w'=>(∃r:Sl,v=.tuple #[r.v,.bool (decide (a.take b.length=b))]∧ao V r (if a.take b.length=b then a.drop b.length else a))∧Rel W V [] V w':=by
 have H:=Rel.start hV
 have h1:=hx.len
 have h2:=hy.len
 have hc:=hx.cap
 refine eV Tryz.func192 15 [0,1,4,5,9] ?_
 refine wk ?_
 refine (xy H.data hx hy).use ?_
 rintro v w ⟨rfl,K⟩
 (replace H:=H.aq K)
 by_cases hp:a.take b.length=b
 ·have hl:b.length≤a.length:=by
   have:=congrArg List.length hp
   simp at this
   omega
  have dJ:=hx.sub (n:=1) (fun _=>rfl) (a:=y.len) (b:=x.len) aa aa
  rw [h1,List.take_length] at dJ
  rw [decide_eq_true hp,if_pos hp]
  refine wk ?_
  refine ⟨⟨⟨aD x.a y.len x.cap 1,x.len - y.len,x.cap - y.len⟩,rfl,?_⟩,H.sx⟩
  rw [h1]
  rw [h2] at dJ ⊢
  exact dJ
 ·rw [decide_eq_false hp,if_neg hp]
  refine wk ?_
  exact ⟨⟨x,rfl,hx⟩,H.sx⟩
end
end Go.Proofs.YtmoiobegbpkkbaaGreatDoor
