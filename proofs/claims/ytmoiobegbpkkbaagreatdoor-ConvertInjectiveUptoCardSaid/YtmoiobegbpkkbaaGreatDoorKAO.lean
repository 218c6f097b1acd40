import Derived.Test.YtmoiobegbpkkbaaGreatDoorKAM
import Derived.Test.YtmoiobegbpkkbaaGreatDoorKAN
namespace Go.Proofs.YtmoiobegbpkkbaaGreatDoor
open Go Go.RowKit
set_option maxRecDepth 100000
set_option maxHeartbeats 8000000
structure Me (W V:World) (x:List Nat×Nat) (v:Value) (w':World):Prop where
 ex:∃(V':World) (r:Sl),Sub V V'∧Rel W V [] V' w'∧v=.tuple #[r.v,iv (x.2:Int)]∧aw cb V' r x.1
theorem An {l:List UInt8} {p:Nat} (h:(chars (l.drop p)).isSome=true) (hp:p<l.length):∃c n,jW (l.drop p)=some (c,n)∧bT c∧1≤n∧p+n≤l.length∧chars (l.drop p)=(chars (l.drop (p+n))).map (c::·):=by
 have hne:l.drop p≠[]:=fun e=>by
  have:=congrArg List.length e
  rw [List.length_drop,List.length_nil] at this
  omega
 rw [wE hne] at h ⊢
 cases hc:jW (l.drop p) with
 | none=>rw [hc] at h;cases h
 | some x =>
  obtain ⟨c,n⟩:=x
  obtain ⟨q1,q2,q3,_⟩:=qY hc
  have:=kv c
  rw [List.length_drop] at q3
  refine ⟨c,n,rfl,q1,aa,aa,?_⟩
  simp only
  rw [List.drop_drop]
theorem SR {b:List UInt8} {cs:List Nat} (h:chars b=some cs):(b.take 3=iO↔cs.head?=some 65279)∧(b.take 3=iO→chars (b.drop 3)=some cs.tail):=by
 obtain ⟨h1,h2⟩:=Ao.1 h
 have hm:aM 65279=iO:=ag
 cases cs with
 | nil =>
  simp only [List.flatMap_nil] at h2
  rw [←h2]
  exact ⟨⟨fun e=>(by cases e),fun e=>(by cases e)⟩,fun e=>(by cases e)⟩
 | cons c r =>
  rw [List.flatMap_cons] at h2
  have key:b.take 3=iO→c=65279:=fun e=>by
   have e2:b=aM 65279++b.drop 3:=by rw [hm,←e,List.take_append_drop]
   have g1:=Am (b.drop 3) (c:=65279) ag
   rw [←e2] at g1
   have g2:=Am (r.flatMap aM) (h1 c ae)
   rw [h2,g1] at g2
   injection g2 with g2
   injection g2 with g2
   exact g2.symm
  have back:c=65279→b.take 3=iO∧b.drop 3=r.flatMap aM:=fun e=>by
   rw [e,hm] at h2
   rw [←h2]
   exact ⟨rfl,rfl⟩
  refine ⟨⟨fun e=>by rw [key e];rfl,fun e=>(back (by simpa using e)).1⟩,fun e=>?_⟩
  rw [(back (key e)).2,List.tail_cons]
  exact wD r fun x hx=>h1 x (by simp [hx])
section
variable {V W:World}
theorem Pv {w0 V0 V w:World} {own:List ak} (H:Rel w0 V0 own V w) {b1 b2:Nat} {k:Value→World→Prop}
  (hk:∀w' b3,Rel w0 V0 (.al b3 [.slice none 0 0,.slice none 0 0,.slice (some ⟨b1,0,none⟩) 2 2,.slice (some ⟨b2,0,none⟩) 2 2] 22::own) V w'→k (.slice (some ⟨b3,0,none⟩) 4 4) w') :
  aH Tryz.prog (Instr.buildSlice 96 4 [(2,.slice (some ⟨b1,0,none⟩) 2 2),(3,.slice (some ⟨b2,0,none⟩) 2 2)].toArray) w k:=by
 refine .of (v:=.slice (some ⟨w.heap.size,0,none⟩) 4 4) (w':=w.alloc (.cells #[.slice none 0 0,.slice none 0 0,.slice (some ⟨b1,0,none⟩) 2 2,.slice (some ⟨b2,0,none⟩) 2 2] 22)) ab (hk _ _ (H.yt ⟨rfl,rfl⟩))
theorem Ox (hV:Sub V W) (hT:Lib.Utf8Tabs 0 1 V) {s:Sl} {b:List UInt8} (hs:ao V s b) (hl:b.length≤1000000):aj Tryz.prog 119 [s.v].toArray W (Me W V (fp b)):=by
 have H:=Rel.start hV
 have hlen:=hs.len
 have nS:=hs.cap
 refine nE ad Tryz.func119 rfl ab 86 rfl ae [0,2,3,4,5,6,7,8,9,10,12,14,23,26,27,28,29,39,48,53,62,63,64,70,73,74,75,76] ?_
 refine aB.cc ad ?_
 refine wk ?_
 refine aB.lZ ad (fun _:Unit=>[(0,s.v)]) (fun _ w'=>gW true b=none∧gW false b=none∧Rel W V [] V w') ?_ ?_
 ·by_cases he:2≤b.length∧b.length%2=0
  rotate_left
  ·have e:∀big,gW big b=none:=fun big=>by unfold gW;rw [if_neg (fun h=>he ⟨h.1,h.2.1⟩)]
   by_cases h2:2≤b.length
   ·have h3:¬b.length%2=0:=fun h=>he ⟨h2,h⟩
    refine wk ?_
    exact ⟨(),sB,e _,e _,H.sx⟩
   ·refine wk ?_
    exact ⟨(),sB,e _,e _,H.sx⟩
  obtain ⟨h2,hev⟩:=he
  have hu:∀big,gW big b=if b.take 2=(if big=true then [254,255] else [255,254]) then cI (eS big (b.drop 2)) else none:=fun big=>by
   unfold gW
   by_cases h:b.take 2=(if big=true then [254,255] else [255,254])
   ·rw [if_pos ⟨h2,hev,h⟩,if_pos h]
   ·rw [if_neg (fun q=>h q.2.2),if_neg h]
  have hr2:ao V ⟨aD s.a 2 s.cap 1,s.len - 2,s.cap - 2⟩ (b.drop 2):=by
   have:=hs.sub (n:=1) (fun _=>rfl) (a:=2) (b:=b.length) aa aa
   rw [List.take_length] at this
   rw [hlen]
   exact this
  have Qq:(b.drop 2).length=b.length - 2:=List.length_drop
  refine wk ?_
  refine H.nA ?_;clear H;intro w b1 H
  replace H:=H.cj (c':=([254,255]:List UInt8).flatMap ay) rfl
  refine wk ?_
  refine H.nA ?_;clear H;intro w b2 H
  replace H:=H.cj (c':=([255,254]:List UInt8).flatMap ay) rfl
  refine wk ?_
  refine Pv H ?_
  clear H
  intro w b3 H
  obtain ⟨V1,hV1,H,hb3⟩:=H.bJ
  obtain ⟨V2,hV2,H,gO⟩:=H.bJ
  obtain ⟨V3,ar,H,gN⟩:=H.bJ
  have dY:=(hV1.trans hV2).trans ar
  have f0:=(hV2.trans ar).cell (hb3.bt (i:=0) rfl)
  have f1:=(hV2.trans ar).cell (hb3.bt (i:=1) rfl)
  have f2:=(hV2.trans ar).cell (hb3.bt (i:=2) rfl)
  have f3:=(hV2.trans ar).cell (hb3.bt (i:=3) rfl)
  have m1:ao V3 ⟨some ⟨b1,0,none⟩,2,2⟩ [254,255]:=⟨rfl,Nat.le_refl _,gN.cells⟩
  have m2:ao V3 ⟨some ⟨b2,0,none⟩,2,2⟩ [255,254]:=⟨rfl,Nat.le_refl _,gO.cells.sG ar⟩
  refine wk ?_
  refine aK (S:=Nat) ad [0,8,9,10,12,14,23,26,27,53,62,63,64,70,73,74,75,76] (fun k=>[(28,iv k)]) (fun k w'=>k≤4∧(2<k→gW true b=none)∧(3<k→gW false b=none)∧Rel W V [] V3 w') (fun k _=>4 - k) 0 ?_
  conv=>whnf
  refine ⟨sB,⟨aa,fun h=>by omega,fun h=>by omega,H⟩,?_⟩
  clear H
  rintro k w ⟨hk,n1,n2,H⟩
  have BC:k=0∨k=1∨k=2∨k=3∨k=4:=aa
  rcases BC with rfl|rfl|rfl|rfl|rfl
  ·refine wk ?_
   exact ⟨sB,1,sB,⟨aa,fun h=>by omega,fun h=>by omega,H.sx⟩,aa⟩
  ·refine wk ?_
   exact ⟨sB,2,sB,⟨aa,fun h=>by omega,fun h=>by omega,H.sx⟩,aa⟩
  ·refine wk ?_
   refine (xy H.data (hs.up dY) m1).use ?_
   rintro v w ⟨rfl,K⟩
   (replace H:=H.aq K)
   rw [show ([254,255]:List UInt8).length=2 from rfl]
   by_cases hp:b.take 2=[254,255]
   rotate_left
   ·have e:gW true b=none:=by rw [hu,if_neg (by simpa using hp)]
    rw [decide_eq_false hp]
    refine wk ?_
    exact ⟨sB,3,sB,⟨aa,fun _=>e,fun h=>by omega,H.sx⟩,aa⟩
   have e:gW true b=cI (eS true (b.drop 2)):=by rw [hu,if_pos (by simpa using hp)]
   rw [decide_eq_true hp]
   refine wk ?_
   refine (LG H.data (hr2.up dY) aa aa true).use ?_
   rintro v w ⟨V4,r,av,K,hres⟩
   (replace H:=H.aq K)
   cases hd:cI (eS true (b.drop 2)) with
   | none =>
    rw [hd] at hres e
    obtain rfl:=hres
    refine wk ?_
    exact ⟨sB,3,sB,⟨aa,fun _=>e,fun h=>by omega,H.less dY av⟩,aa⟩
   | some cs =>
    rw [hd] at hres e
    obtain ⟨rfl,hr⟩:=hres
    have ef:fp b=(cs,2):=by unfold fp;rw [e]
    rw [ef]
    refine wk ?_
    exact ⟨V4,r,dY.trans av,H.sx,rfl,hr⟩
  ·have n1:=n1 aa
   refine wk ?_
   refine (xy H.data (hs.up dY) m2).use ?_
   rintro v w ⟨rfl,K⟩
   (replace H:=H.aq K)
   rw [show ([255,254]:List UInt8).length=2 from rfl]
   by_cases hp:b.take 2=[255,254]
   rotate_left
   ·have e:gW false b=none:=by rw [hu,if_neg (by simpa using hp)]
    rw [decide_eq_false hp]
    refine wk ?_
    exact ⟨sB,4,sB,⟨aa,fun _=>n1,fun _=>e,H.sx⟩,aa⟩
   have e:gW false b=cI (eS false (b.drop 2)):=by rw [hu,if_pos (by simpa using hp)]
   rw [decide_eq_true hp]
   refine wk ?_
   refine (LG H.data (hr2.up dY) aa aa false).use ?_
   rintro v w ⟨V4,r,av,K,hres⟩
   (replace H:=H.aq K)
   cases hd:cI (eS false (b.drop 2)) with
   | none =>
    rw [hd] at hres e
    obtain rfl:=hres
    refine wk ?_
    exact ⟨sB,4,sB,⟨aa,fun _=>n1,fun _=>e,H.less dY av⟩,aa⟩
   | some cs =>
    rw [hd] at hres e
    obtain ⟨rfl,hr⟩:=hres
    have ef:fp b=(cs,3):=by unfold fp;rw [n1,e]
    rw [ef]
    refine wk ?_
    exact ⟨V4,r,dY.trans av,H.sx,rfl,hr⟩
  ·refine wk ?_
   exact ⟨(),sB,n1 aa,n2 aa,H.less (Sub.refl V) dY⟩
 clear H
 rintro _ w ⟨u1,u2,H⟩
 have ef:fp b=xb b:=by unfold fp;rw [u1,u2]
 rw [ef]
 unfold xb
 refine aB.cc ad ?_
 refine wk ?_
 replace H:=H.bw 21 1
 refine aB.cc ad ?_
 refine wk ?_
 refine (LH H.data hT hs aa).use ?_
 rintro v w ⟨rfl,K⟩
 (replace H:=Rel.call H K)
 simp only [List.nil_append] at H
 cases hch:chars b with
 | none =>
  refine wk ?_
  refine aB.go ad ?_
  refine wk ?_
  refine aK (S:=Nat×Sl) ad [0,2,3,4,5,6,7,9,10,12,23,26,27,28,29,39,48,53,62,63,64,70,73,74] (fun k=>[(8,k.2.v),(75,iv k.1)]) (fun k w'=>k.1≤b.length∧Rel W V [.row k.2 21 1 (((b.take k.1).map UInt8.toNat).flatMap cb)] V w') (fun k _=>b.length - k.1) (0,⟨none,0,0⟩) ?_
  conv=>whnf
  refine ⟨sB,⟨aa,H⟩,?_⟩
  clear H
  rintro ⟨k,r⟩ w ⟨hk,H⟩
  dsimp only at hk H ⊢
  by_cases hlt:k<b.length
  ·obtain ⟨p0,c0⟩:=hs.aP (g:=bv) (fun _=>rfl) hlt
   have z0:=b[k].toNat_lt
   have iH:((b.take k).map UInt8.toNat).length=k:=by rw [List.length_map,List.length_take];omega
   refine H.wg ?_;clear H;intro _ w H
   replace H:=H.cj (c':=cb b[k].toNat) (vS rfl aa)
   refine Rel.dj (f:=cb) (l:=(b.take k).map UInt8.toNat) (x:=b[k].toNat) ad rfl rfl rfl rfl rfl ag (fun _=>rfl) (List.all_eq_true.1 rfl) H (by show (((b.take k).map UInt8.toNat).length+1)*4≤_;omega) aa ?_
   clear H
   intro rn w H
   refine wk ?_
   refine ⟨sB,(k+1,rn),sB,⟨by dsimp only;omega,?_⟩,by dsimp only;omega⟩
   dsimp only
   rw [List.take_succ_eq_append_getElem hlt,List.map_append]
   exact H
  ·rw [List.take_of_length_le aa] at H
   obtain ⟨V2,hV2,H,hr⟩:=Rel.aJ H (fun _=>rfl) ag
   refine wk ?_
   exact ⟨V2,r,hV2,H.sx,rfl,hr⟩
 | some cs =>
  obtain ⟨yp,S4⟩:=SR hch
  replace H:=H.bw 5 1
  refine wk ?_
  refine (th (c:=65279) (xs:=[]) H ag ae).use ?_
  clear H
  rintro v w ⟨rm,rfl,H⟩
  rw [List.nil_append,show aM 65279=iO by decide] at H
  obtain ⟨V2,hV2,H,hm⟩:=Rel.aJ H (fun _=>rfl) ag
  refine wk ?_
  refine (Od H.data (hs.up hV2) hm).use ?_
  rintro v w ⟨⟨r2,rfl,hr2⟩,K⟩
  (replace H:=Rel.call H K)
  simp only [List.nil_append] at H
  rw [show iO.length=3 from rfl] at hr2 ⊢
  obtain ⟨L,hL⟩:∃L,L=if b.take 3=iO then b.drop 3 else b:=⟨_,rfl⟩
  rw [←hL] at hr2
  obtain ⟨ds,fI⟩:∃ds,ds=if b.take 3=iO then cs.tail else cs:=⟨_,rfl⟩
  have Hg:chars L=some ds:=by
   rw [hL,fI]
   split
   ·rename_i h;exact S4 h
   ·exact hch
  have Hh:L.length≤b.length:=by rw [hL];split<;>simp
  have Ze:=hr2.len
  have mD:Cells w r2.a (L.map bv):=fm L ▸ (hr2.up H.data).cells
  have hsz:(ByteArray.mk L.toArray).size=L.length:=rfl
  refine wk ?_
  refine Rel.range ad rfl rfl H ?_
  clear H
  intro w bi H
  refine wk ?_
  refine aK (S:=Nat×Sl×List Nat) ad [0,2,3,4,5,6,7,9,10,14,23,26,27,28,29,39,48,53,62,70,73,74,75,76] (fun q=>[(8,q.2.1.v)]) (fun q w'=>q.1≤L.length∧(chars (L.drop q.1)).isSome=true∧chars L=(chars (L.drop q.1)).map (q.2.2++·)∧q.2.2.length≤q.1∧Rel W V [.obj bi (.stringIter ⟨L.toArray⟩ q.1),.row q.2.1 21 1 (q.2.2.flatMap cb)] V2 w') (fun q _=>L.length - q.1) (0,⟨none,0,0⟩,[]) ?_
  conv=>whnf
  refine ⟨sB,⟨aa,by rw [List.drop_zero,Hg];rfl,ae,Nat.le_refl _,H⟩,?_⟩
  clear H
  rintro ⟨p,r8,out⟩ w ⟨hp,fJ,heq,gx,H⟩
  dsimp only at hp fJ heq gx H ⊢
  conv=>whnf
  refine Rel.next H (fun hlt w H=>?_) (fun hlt=>?_)
  ·have nX:p<L.length:=hlt
   obtain ⟨c,n,hc,HS,uu,hn2,hst⟩:=An fJ nX
   rw [AU hc] at H ⊢
   dsimp only at H ⊢
   refine H.wg ?_;clear H;intro _ w H
   refine Rel.cy (f:=cb) (l:=out) (x:=c) ad rfl rfl rfl rfl rfl ag (fun _=>rfl) (List.all_eq_true.1 rfl) H (by show (out.length+1)*4≤_;omega) aa ?_
   clear H
   intro rn w H
   refine wk ?_
   refine ⟨sB,(p+n,rn,out++[c]),sB,⟨by dsimp only;omega,?_,?_,by dsimp only;rw [List.length_append,List.length_singleton];omega,H.sx⟩,by dsimp only;omega⟩
   ·dsimp only
    rw [hst] at fJ
    cases hq:chars (L.drop (p+n)) with
    | none=>rw [hq] at fJ;cases fJ
    | some _=>rfl
   ·dsimp only
    rw [heq,hst]
    exact iN out [c] _
  ·have nX:¬p<L.length:=hlt
   rw [List.drop_of_length_le aa,Fc,Hg] at heq
   have B5:out=ds:=by simpa using heq.symm
   rw [B5] at H
   have H0:Rel W V [.row r8 21 1 (ds.flatMap cb)] V2 w:=H.sx
   clear H
   obtain ⟨V3,ar,H,hr⟩:=Rel.aJ H0 (fun _=>rfl) ag
   clear H0
   by_cases hpre:b.take 3=iO
   ·rw [decide_eq_true hpre,if_pos (yp.1 hpre)]
    rw [if_pos hpre] at fI
    rw [fI] at hr
    refine wk ?_
    exact ⟨V3,r8,hV2.trans ar,H.sx,rfl,hr⟩
   ·rw [decide_eq_false hpre,if_neg (fun h=>hpre (yp.2 h))]
    rw [if_neg hpre] at fI
    rw [fI] at hr
    refine wk ?_
    exact ⟨V3,r8,hV2.trans ar,H.sx,rfl,hr⟩
end
structure Mq (W V:World) (o:Option (Nat×List bK)) (v:Value) (w':World):Prop where
 ex:∃(V':World) (e:Int) (r:Sl),Sub V V'∧Rel W V [] V' w'∧(match o with
  | none=>v=.tuple #[.agg (oA e r).toArray,.bool false]
  | some (e',rs)=>e=e'∧v=.tuple #[.agg (oA e r).toArray,.bool true]∧aw cv V' r (aC rs))
theorem Vc {l:List UInt8}:∀q x q',q≤l.length→ff l q=.ok x q'→q'≤l.length:=fun q x q' hq h=>(zc hq h).2.1
theorem R6 {xs:List aR} {k:Nat} (hk:k<xs.length):lL 3 (xs.take (k+1))=(xs[k]).1:=by rw [List.take_succ_eq_append_getElem hk,IF]
theorem zf:∀ {rs:List bK} {p:Nat},lX p rs→∀r∈rs,1≤r.2
 | [],_,_=>by simp
 | x::rs,p,h=>by
  obtain ⟨h1,h2,h3,h4⟩:=h
  intro r hr
  rcases List.mem_cons.1 hr with rfl|hr
  ·exact h2
  ·exact zf h4 r hr
theorem I5 {b:List UInt8}:∀(n p q:Nat) (l:List aR),p≤b.length→dL (ff b) n p=.ok l q→∀y∈l,bI y.1∧bI y.2
 | 0,p,q,l,hp,h=>by
  simp only [dL] at h
  cases h
  simp
 | n+1,p,q,l,hp,h=>by
  simp only [dL] at h
  split at h
  ·cases h
  ·rename_i x q1 h1
   split at h
   ·cases h
   ·rename_i l' r h2
    cases h
    obtain ⟨a1,a2,a3,a4,a5⟩:=zc hp h1
    intro y hy
    rcases List.mem_cons.1 hy with rfl|hy
    ·exact ⟨a4,a5⟩
    ·exact I5 n q1 _ _ a2 h2 y hy
theorem Sg {b:List UInt8} {m:Int} {p q:Nat} {l:List aR} (hp:p≤b.length) (h:dK b (ff b) m p=.ok l q):∀y∈l,bI y.1∧bI y.2:=by
 unfold dK at h
 split at h
 ·cases h
 ·rename_i h1
  split at h
  ·cases h
  ·exact I5 _ _ _ _ (kW hp h1).2.1 h
section
variable {V W:World}
theorem UH {s:Sl} {l:List UInt8} (hs:ao V s l) (hl:l.length≤1099511627776) {p:Nat} (hp:p≤l.length):Reads V 203 [] s (fun p=>.agg (cv p).toArray) (fun _ x y=>x=y) p (ff l p):=by
 intro V1 W1 h1 h2
 have H:=Rel.start h2
 have hs1:=hs.up h1
 have hlen:=hs1.len
 refine eV Tryz.func203 34 [0,1,4,5,6,7,8,9,19] ?_
 refine wk ?_
 refine H.nA ?_;clear H;intro w b4 H
 refine wk ?_
 refine H.nA ?_;clear H;intro w b6 H
 refine wk ?_
 refine (y5 H.data hs1 hl hp).use ?_
 rintro v w ⟨rfl,K⟩
 (replace H:=H.aq K)
 cases hn:cC l p with
 | bad c i =>
  have j2:=yx hn
  have hr:ff l p=.bad c i:=by rw [ff,hn]
  rw [hr]
  refine wk ?_
  refine H.nA ?_;clear H;intro w b8 H
  refine H.wg ?_;clear H;intro w H
  (first|refine nK (id:=3) ad mixed (dD [b4]) (fun _ _ _=>dD.trans) [2] [1] [0,1,2,3,4] ab ?_|refine nK (id:=5) ad mixed (dD [b4]) (fun _ _ _=>dD.trans) [5] [4] [0,1,2,3,4,5,6,7] ab ?_);intro w aG;replace H:=Rel.ext H aG.ext
  refine wk ?_
  refine And.intro (fun w1 mN=>?_) ?_;focus (obtain ⟨_,H1⟩:=Rel.vw H (i:=2) rfl rfl mN;clear H;have H:=H1;clear H1;((repeat ((conv=>whnf);first|refine an ?_|((first|refine H.qf ?_|refine H.nw ?_);clear H;intro w _ H)|refine H.ce ?_|refine H.db ?_|refine ea ?_|refine ol ?_|(refine H.st ?_;(conv=>whnf);clear H;intro w H)|refine cT ?_|refine cF ?_|refine cN ?_|refine cM ?_|refine H.lw ?_|refine H.ll ?_));(conv=>whnf));try exact ⟨rfl,rfl⟩)
  refine wk ?_
  refine Rel.vD H (i:=2) rfl ?_;(conv=>whnf);clear H;intro w H
  refine H.wg ?_;clear H;intro w H
  exact ⟨V1,(0,0),0,c,i,Sub.refl _,H.sx,rfl,rfl,rfl,j2⟩
 | ok n q =>
  obtain ⟨g1,g2,g3,g4,g5⟩:=kW hp hn
  refine wk ?_
  refine H.nA ?_;clear H;intro w b8 H
  refine H.wg ?_;clear H;intro w H
  refine (y5 (p:=q) H.data hs1 hl g2).use ?_
  rintro v w ⟨rfl,K⟩
  (replace H:=H.aq K)
  cases hm:cC l q with
  | bad c i =>
   have j2:=yx hm
   have hr:ff l p=.bad c i:=by
    rw [ff,hn]
    simp only
    rw [hm]
   rw [hr]
   refine H.wg ?_;clear H;intro w H
   (first|refine nK (id:=3) ad mixed (dD [b4]) (fun _ _ _=>dD.trans) [2] [1] [0,1,2,3,4] ab ?_|refine nK (id:=5) ad mixed (dD [b4]) (fun _ _ _=>dD.trans) [5] [4] [0,1,2,3,4,5,6,7] ab ?_);intro w aG;replace H:=Rel.ext H aG.ext
   refine wk ?_
   refine And.intro (fun w1 mN=>?_) ?_;focus (obtain ⟨_,H1⟩:=Rel.vw H (i:=2) rfl rfl mN;clear H;have H:=H1;clear H1;((repeat ((conv=>whnf);first|refine an ?_|((first|refine H.qf ?_|refine H.nw ?_);clear H;intro w _ H)|refine H.ce ?_|refine H.db ?_|refine ea ?_|refine ol ?_|(refine H.st ?_;(conv=>whnf);clear H;intro w H)|refine cT ?_|refine cF ?_|refine cN ?_|refine cM ?_|refine H.lw ?_|refine H.ll ?_));(conv=>whnf));try exact ⟨rfl,rfl⟩)
   refine wk ?_
   refine Rel.vD H (i:=2) rfl ?_;(conv=>whnf);clear H;intro w H
   refine H.wg ?_;clear H;intro w H
   exact ⟨V1,(n,0),0,c,i,Sub.refl _,H.sx,rfl,rfl,rfl,j2⟩
  | ok m r =>
   obtain ⟨g6,g7,g8,g9,g10⟩:=kW g2 hm
   have hr:ff l p=.ok (n,m) r:=by
    rw [ff,hn]
    simp only
    rw [hm]
   rw [hr]
   refine H.wg ?_;clear H;intro w H
   (first|refine nK (id:=3) ad mixed (dD [b4]) (fun _ _ _=>dD.trans) [2] [1] [0,1,2,3,4] ab ?_|refine nK (id:=5) ad mixed (dD [b4]) (fun _ _ _=>dD.trans) [5] [4] [0,1,2,3,4,5,6,7] ab ?_);intro w aG;replace H:=Rel.ext H aG.ext
   refine wk ?_
   refine And.intro (fun w1 mN=>?_) ?_;focus (obtain ⟨_,H1⟩:=Rel.vw H (i:=2) rfl rfl mN;clear H;have H:=H1;clear H1;((repeat ((conv=>whnf);first|refine an ?_|((first|refine H.qf ?_|refine H.nw ?_);clear H;intro w _ H)|refine H.ce ?_|refine H.db ?_|refine ea ?_|refine ol ?_|(refine H.st ?_;(conv=>whnf);clear H;intro w H)|refine cT ?_|refine cF ?_|refine cN ?_|refine cM ?_|refine H.lw ?_|refine H.ll ?_));(conv=>whnf));try exact ⟨rfl,rfl⟩)
   refine wk ?_
   refine Rel.vD H (i:=2) rfl ?_;(conv=>whnf);clear H;intro w H
   refine H.wg ?_;clear H;intro w H
   exact ⟨V1,(n,m),r,0,0,Sub.refl _,H.sx,rfl,rfl,rfl,rfl,rfl⟩
set_option maxRecDepth 100000 in
set_option maxHeartbeats 1000000 in
theorem UI {V W:World} (hV:Sub V W) {s:Sl} {l:List UInt8} (hs:ao V s l) (hl:l.length≤1099511627776) {p:Nat} (hp:p≤l.length) {m:Int} (hm:0≤m∧m≤4294967296) {g:FuncId} {cap:List Value} {one:Nat→fV aR}
  (hone:∀q,q≤l.length→Reads V g cap s (fun p=>.agg (cv p).toArray) (fun _ x y=>x=y) q (one q)) (hin:∀q x q',q≤l.length→one q=.ok x q'→q'≤l.length) :
  aj Tryz.prog 202 [s.v,iv p,iv m,.func (.func g) #[] cap.toArray].toArray W (EF Sl.v (RL cv (fun _ x y=>x=y)) W V (dK l one m p)):=by
 have H:=Rel.start hV
 have hlen:=hs.len
 have hR:∀(V V':World) (x:aR) (y:aR),Sub V V'→((fun _ x y=>x=y):World→aR→aR→Prop) V x y→((fun _ x y=>x=y):World→aR→aR→Prop) V' x y:=fun _ _ _ _ _ h=>h
 refine eV Tryz.func202 64 [0,1,2,3,8,9,10,11,12,13,14,15,16,17,25,30,40,41,42,53] ?_
 refine wk ?_
 refine H.nA ?_;clear H;intro w wx H
 refine wk ?_
 refine (y5 H.data hs hl hp).use ?_
 rintro v w ⟨rfl,K⟩
 replace H:=H.call K
 simp only [List.nil_append] at H
 cases hn:cC l p with
 | bad c i =>
  have j2:=yx hn
  have hr:dK l one m p=.bad c i:=by rw [dK,hn]
  rw [hr]
  refine wk ?_
  refine H.nA ?_;clear H;intro w Af H
  refine H.wg ?_;clear H;intro w H
  (first|refine dV 3 [] [0,1,2,3] H ?_|refine dV 11 [] [0,1,2,3] H ?_);clear H;intro w H
  refine H.wg ?_;clear H;intro w H
  exact ⟨V,⟨none,0,0⟩,0,c,i,Sub.refl _,H.sx,rfl,rfl,rfl,j2⟩
 | ok n q0 =>
  obtain ⟨h1,h2,h3,h4,h5⟩:=kW hp hn
  refine wk ?_
  refine H.nA ?_;clear H;intro w Af H
  by_cases hb:n<0∨m<n
  ·have hr:dK l one m p=.bad 4 p:=by rw [dK,hn];simp only;rw [if_pos hb]
   rw [hr]
   by_cases hn0:n<0
   all_goals
    refine H.wg ?_;clear H;intro w H
    refine (w9 H.data 4 p).use ?_
    rintro v w ⟨rfl,K⟩
    replace H:=H.call K
    simp only [List.nil_append] at H
    refine H.wg ?_;clear H;intro w H
    exact ⟨V,⟨none,0,0⟩,0,4,p,Sub.refl _,H.sx,rfl,rfl,rfl,ag⟩
  have hr:dK l one m p=dL one n.toNat q0:=by rw [dK,hn];simp only;rw [if_neg hb]
  rw [hr]
  obtain ⟨N,rfl⟩:∃N:Nat,n=N:=⟨n.toNat,aa⟩
  rw [Int.toNat_natCast]
  refine H.wg ?_;clear H;intro w H
  replace H:=H.bw 250 2
  refine aK (S:=Nat×Nat×Sl×List aR×List aR) ad [0,1,2,3,10,11,13,25,30,40] (fun k=>[(12,iv k.2.1),(14,k.2.2.1.v),(41,iv k.1)]) (fun k w'=>k.1≤N∧k.2.1≤l.length∧k.2.2.2.1.length=k.1∧dL one k.1 q0=.ok k.2.2.2.2 k.2.1∧∃V1,Sub V V1∧Pw (fun _ x y=>x=y) V1 k.2.2.2.1 k.2.2.2.2∧Rel W V [.row k.2.2.1 250 2 (k.2.2.2.1.flatMap cv),.al Af [iv 0,iv 0] 31,.al wx [iv 0,iv 0] 31] V1 w') (fun k _=>N - k.1) (0,q0,⟨none,0,0⟩,[],[]) ?_
  conv=>whnf
  refine ⟨sB,⟨aa,h2,rfl,rfl,V,Sub.refl _,Pw.nil,H.sx⟩,?_⟩
  clear H
  rintro ⟨k,q,r,xs,ys⟩ w ⟨hk,hq,hxl,xR,V1,hV1,hpw,H⟩
  dsimp only at hk hq hxl xR hpw H
  by_cases hlt:k<N
  rotate_left
  ·obtain rfl:k=N:=aa
   refine H.wg ?_;clear H;intro w H
   obtain ⟨V2,hV2,H,Cf⟩:=Rel.aJ H (fun _=>rfl) ag
   rw [xR]
   exact ⟨V2,r,q,0,0,hV1.trans hV2,H.sx,rfl,rfl,rfl,rfl,xs,Cf,hpw.up hR hV2⟩
  refine wk ?_
  refine (hone q hq V1 w hV1 H.data).use ?_
  rintro v w ⟨V2,x,n2,c,i,hV2,K,rfl,hres⟩
  replace H:=H.call K
  simp only [List.nil_append] at H
  cases ho:one q with
  | bad c' i' =>
   rw [ho] at hres
   obtain ⟨rfl,rfl,j2⟩:=hres
   have BZ:dL one N q0=.bad c i:=by
    have:=I4 xR ho (N - (k+1))
    rwa [show k+1+(N - (k+1))=N by omega] at this
   rw [BZ]
   refine H.wg ?_;clear H;intro _ _ _ _ _ w H
   (first|refine dV 3 [] [0,1,2,3] H ?_|refine dV 11 [] [0,1,2,3] H ?_);clear H;intro w H
   refine H.wg ?_;clear H;intro w H
   exact ⟨V2,⟨none,0,0⟩,0,c,i,hV1.trans hV2,H.sx,rfl,rfl,rfl,j2⟩
  | ok y q' =>
   rw [ho] at hres
   obtain ⟨rfl,rfl,rfl,x8⟩:=hres
   have Cb:=hin q y q' hq ho
   refine H.wg ?_;clear H;intro _ _ _ _ _ _ _ w H
   refine Rel.tf (f:=cv) (l:=xs) (x:=x) ad rfl rfl rfl rfl rfl ag (fun _=>rfl) (List.all_eq_true.1 rfl) H (by simp;omega) aa ?_
   clear H
   intro rn w H
   refine wk ?_
   exact ⟨sB,(k+1,q',rn,xs++[x],ys++[y]),sB,⟨aa,Cb,by simp [hxl],SP xR ho,V2,hV1.trans hV2,(hpw.up hR hV2).snoc x8,H.sx⟩,aa⟩
theorem UN (hV:Sub V W) {s:Sl} {b:List UInt8} (hs:ao V s b) (hl:b.length≤1000000000):aj Tryz.prog 125 [s.v].toArray W (Mq W V (gk b)):=by
 have H:=Rel.start hV
 have hlen:=hs.len
 refine eV Tryz.func125 100 [0,2,3,4,5,6,7,8,9,10,11,14,29,48,50,51,52,53,86] ?_
 refine wk ?_
 refine H.nA ?_;clear H;intro w b2 H
 by_cases h0:b.length=0
 ·have hb:b=[]:=List.eq_nil_of_length_eq_zero h0
  have e:gk b=some (0,[]):=by rw [gk,if_pos hb]
  rw [e]
  refine H.wg ?_;clear H;intro w H
  exact ⟨V,0,⟨none,0,0⟩,Sub.refl _,H.sx,rfl,rfl,aw.nil _ _⟩
 have hb:b≠[]:=fun h=>h0 (by rw [h];rfl)
 have hnr:l8 b=none→gk b=none:=fun h=>by unfold gk;rw [if_neg hb,h]
 refine wk ?_
 refine (y5 (p:=0) H.data hs aa (Nat.zero_le _)).use ?_
 rintro v w ⟨rfl,K⟩
 (replace H:=H.aq K)
 cases hn:cC b 0 with
 | bad c i =>
  have j2:=yx hn
  rw [hnr (by unfold l8;rw [hn])]
  refine wk ?_
  refine H.nA ?_;clear H;intro w b6 H
  refine H.wg ?_;clear H;intro _ w H
  exact ⟨V,_,⟨none,0,0⟩,Sub.refl _,H.sx,rfl⟩
 | ok c q =>
  obtain ⟨g1,g2,g3,g4,g5⟩:=kW (Nat.zero_le _) hn
  refine wk ?_
  refine H.nA ?_;clear H;intro w b6 H
  refine H.wg ?_;clear H;intro w H
  refine (kC _ _ _ _).use ?_
  rintro v w' ⟨rfl,rfl⟩
  by_cases hc:c<0∨5≤c
  ·rw [hnr (by unfold l8;rw [hn];simp only;rw [if_pos hc]),decide_eq_false aa]
   refine H.wg ?_;clear H;intro w H
   exact ⟨V,_,⟨none,0,0⟩,Sub.refl _,H.sx,rfl⟩
  have gy:l8 b=(match dK b (ff b) b.length q with
   | .bad _ _=>none
   | .ok rs q=>if q≠b.length then none else if fa 1000 3 rs=true then some (c.toNat,rs.map CL) else none):=by
   rw [l8,hn]
   simp only
   rw [if_neg hc]
   rfl
  rw [decide_eq_true aa]
  obtain ⟨C,rfl⟩:∃C:Nat,c=C:=⟨c.toNat,aa⟩
  refine wk ?_
  rw [hlen]
  refine (UI (m:=b.length) H.data hs aa g2 (by constructor<;>omega) (fun q hq=>UH hs aa hq) Vc).use ?_
  rintro v w ⟨V2,x,n,c,i,hV2,K,rfl,hres⟩
  (replace H:=H.aq K)
  cases mJ:dK b (ff b) b.length q with
  | bad c' i' =>
   rw [mJ] at hres gy
   obtain ⟨rfl,rfl,j2⟩:=hres
   rw [hnr gy]
   refine H.wg ?_;clear H;intro _ w H
   exact ⟨V2,_,⟨none,0,0⟩,hV2,H.sx,rfl⟩
  | ok xs q' =>
   rw [mJ] at hres gy
   obtain ⟨rfl,rfl,rfl,Cq⟩:=hres
   obtain ⟨ys,lK,hpw⟩:=Cq
   obtain rfl:=hpw.eq
   have hxl:=lK.len
   simp only at gy
   by_cases hq:q'=b.length
   rotate_left
   ·rw [if_pos hq] at gy
    rw [hnr gy]
    refine H.wg ?_;clear H;intro _ w H
    exact ⟨V2,_,⟨none,0,0⟩,hV2,H.sx,rfl⟩
   rw [if_neg (fun h=>h hq)] at gy
   have QZ:fa 1000 3 ys=false→gk b=none:=fun h=>hnr (by rw [gy,if_neg (by rw [h];simp)])
   have Zm:ys.length≤b.length:=by
    unfold dK at mJ
    split at mJ
    ·cases mJ
    ·split at mJ
     ·cases mJ
     ·rename_i h1 h2
      have:=(CH (f:=dN) (b:=b) (one:=ff b) (fun p q x hp h=>by
       obtain ⟨a1,a2,a3,_⟩:=zc hp h
       exact ⟨aa,a2,a3⟩) _ _ _ _ (kW g2 h1).2.1 mJ).1
      omega
   have Rz:∀y∈ys,bI y.1∧bI y.2:=Sg g2 mJ
   refine H.wg ?_;clear H;intro w H
   refine aK (S:=Nat) ad [0,2,4,5,6,7,11,14,29,48,50,51] (fun k=>[(8,iv (jz 1000 (ys.take k))),(52,iv k)]) (fun k w'=>k≤ys.length∧fa 1000 3 (ys.take k)=true∧Rel W V [.al b6 [iv 0,iv 0] 31,.al b2 (oA 0 ⟨none,0,0⟩) 150] V2 w') (fun k _=>ys.length - k) 0 ?_
   conv=>whnf
   refine ⟨sB,⟨aa,rfl,H.sx⟩,?_⟩
   clear H
   rintro k w ⟨hk,hok,H⟩
   dsimp only at hk hok H ⊢
   obtain ⟨nV,hl2,kO⟩:=Jm hok ag
   by_cases hlt:k<ys.length
   ·obtain ⟨hp,lI,iI⟩:=lK.dW (g:=fun x:aR=>iv x.1) (g':=fun x:aR=>iv x.2) (fun _=>rfl) hlt
    obtain ⟨kK,pL⟩:=Rz _ (List.getElem_mem hlt)
    have hsp:ys=ys.take k++ys[k]::ys.drop (k+1):=by rw [←List.drop_eq_getElem_cons hlt,List.take_append_drop]
    obtain ⟨x1,cL⟩:∃x,x=(ys[k]).1:=⟨_,rfl⟩
    obtain ⟨x2,n0⟩:∃x,x=(ys[k]).2:=⟨_,rfl⟩
    obtain ⟨LL,tP⟩:∃x,x=jz 1000 (ys.take k):=⟨_,rfl⟩
    have nR:¬(0≤x1∧x1<3∧1≤x2∧x2≤LL∧x1≠lL 3 (ys.take k))→gk b=none:=fun h=>QZ (by rw [hsp];exact Ty (by rw [←cL,←n0,←tP];exact h))
    rw [←tP] at hl2 kO
    rw [←cL] at lI kK
    rw [←n0] at iI pL
    rw [←tP]
    refine H.wg ?_;clear H;intro _ _ w H
    by_cases b1:0≤x1∧x1<3
    rotate_left
    ·rw [nR (fun h=>b1 ⟨h.1,h.2.1⟩)]
     (first|refine az (id:=13) ad mixed [] [0,1,2,3,4,5,6,7,8,9,10,11,12,13,14,15,16,17,18,19,20,21,22,23,24,25,26,27,28,29] ab ?_|refine az (id:=18) ad mixed [2] [0,1,2,3,4,5] ab ?_);intro w aG;replace H:=Rel.ext H aG.ext
     refine wk ?_
     refine (kC _ _ _ _).use ?_
     rintro v w' ⟨rfl,rfl⟩
     rw [decide_eq_false aa]
     refine H.wg ?_;clear H;intro w H
     exact ⟨V2,_,⟨none,0,0⟩,hV2,H.sx,rfl⟩
    by_cases b2:x2<1
    ·rw [nR (fun h=>by omega)]
     (first|refine az (id:=13) ad mixed [] [0,1,2,3,4,5,6,7,8,9,10,11,12,13,14,15,16,17,18,19,20,21,22,23,24,25,26,27,28,29] ab ?_|refine az (id:=18) ad mixed [2] [0,1,2,3,4,5] ab ?_);intro w aG;replace H:=Rel.ext H aG.ext
     refine wk ?_
     refine (kC _ _ _ _).use ?_
     rintro v w' ⟨rfl,rfl⟩
     rw [decide_eq_true aa]
     refine H.wg ?_;clear H;intro w H
     exact ⟨V2,_,⟨none,0,0⟩,hV2,H.sx,rfl⟩
    by_cases b3:LL<x2
    ·rw [nR (fun h=>by omega)]
     (first|refine az (id:=13) ad mixed [] [0,1,2,3,4,5,6,7,8,9,10,11,12,13,14,15,16,17,18,19,20,21,22,23,24,25,26,27,28,29] ab ?_|refine az (id:=18) ad mixed [2] [0,1,2,3,4,5] ab ?_);intro w aG;replace H:=Rel.ext H aG.ext
     refine wk ?_
     refine (kC _ _ _ _).use ?_
     rintro v w' ⟨rfl,rfl⟩
     rw [decide_eq_true aa]
     refine H.wg ?_;clear H;intro w H
     exact ⟨V2,_,⟨none,0,0⟩,hV2,H.sx,rfl⟩
    have Ia:x1≠lL 3 (ys.take k)→fa 1000 3 (ys.take (k+1))=true:=fun h=>by
     rw [List.take_succ_eq_append_getElem hlt,CT,hok]
     simp only [fa,Bool.and_true,Bool.true_and]
     rw [←cL,←n0,←tP]
     exact decide_eq_true ⟨b1.1,b1.2,aa,aa,h⟩
    have HY:jz 1000 (ys.take (k+1))=LL - x2:=by rw [List.take_succ_eq_append_getElem hlt,IG,←tP,←n0]
    by_cases hk0:k=0
    ·have kO:lL 3 (ys.take k)=3:=by rw [hk0];rfl
     (first|refine az (id:=13) ad mixed [] [0,1,2,3,4,5,6,7,8,9,10,11,12,13,14,15,16,17,18,19,20,21,22,23,24,25,26,27,28,29] ab ?_|refine az (id:=18) ad mixed [2] [0,1,2,3,4,5] ab ?_);intro w aG;replace H:=Rel.ext H aG.ext
     refine wk ?_
     refine (kC _ _ _ _).use ?_
     rintro v w' ⟨rfl,rfl⟩
     rw [decide_eq_true aa]
     refine wk ?_
     exact ⟨sB,k+1,⟨congrArg (fun z=>some (iv z)) HY.symm,rfl,trivial⟩,⟨aa,Ia (by rw [kO];omega),H.sx⟩,aa⟩
    obtain ⟨j,rfl⟩:∃j,k=j+1:=⟨k - 1,aa⟩
    have HU:j<ys.length:=aa
    obtain ⟨_,Ic,_⟩:=lK.dW (g:=fun x:aR=>iv x.1) (g':=fun x:aR=>iv x.2) (fun _=>rfl) HU
    have kO:=R6 HU
    obtain ⟨x3,Cn⟩:∃x,x=(ys[j]).1:=⟨_,rfl⟩
    rw [←Cn] at Ic kO
    have ek:(((j+1:Nat):Int) - 1)=((j:Nat):Int):=aa
    by_cases b4:x1=x3
    ·rw [nR (fun h=>h.2.2.2.2 (by rw [kO];exact b4))]
     (first|refine az (id:=13) ad mixed [] [0,1,2,3,4,5,6,7,8,9,10,11,12,13,14,15,16,17,18,19,20,21,22,23,24,25,26,27,28,29] ab ?_|refine az (id:=18) ad mixed [2] [0,1,2,3,4,5] ab ?_);intro w aG;replace H:=Rel.ext H aG.ext
     refine wk ?_
     refine (kC _ _ _ _).use ?_
     rintro v w' ⟨rfl,rfl⟩
     rw [decide_eq_true aa]
     refine wk ?_
     rw [ek]
     refine H.wg ?_;clear H;intro w H
     exact ⟨V2,_,⟨none,0,0⟩,hV2,H.sx,rfl⟩
    ·(first|refine az (id:=13) ad mixed [] [0,1,2,3,4,5,6,7,8,9,10,11,12,13,14,15,16,17,18,19,20,21,22,23,24,25,26,27,28,29] ab ?_|refine az (id:=18) ad mixed [2] [0,1,2,3,4,5] ab ?_);intro w aG;replace H:=Rel.ext H aG.ext
     refine wk ?_
     refine (kC _ _ _ _).use ?_
     rintro v w' ⟨rfl,rfl⟩
     rw [decide_eq_true aa]
     refine wk ?_
     rw [ek]
     refine wk ?_
     exact ⟨sB,j+1+1,⟨congrArg (fun z=>some (iv z)) HY.symm,rfl,trivial⟩,⟨aa,Ia (by rw [kO];exact b4),H.sx⟩,aa⟩
   ·obtain rfl:k=ys.length:=aa
    rw [List.take_length] at hok
    rw [if_pos hok] at gy
    obtain ⟨rs,aS,ho,rO⟩:=CU (p:=3) hok ag
    rw [aS,CM,Int.toNat_natCast] at gy
    rw [aS] at lK
    have hrl:rs.length=ys.length:=by rw [aS];simp [aC]
    have hos:=sC ho
    have aL:gk b=if eu C (bP rs)=true then none else some (C,rs):=by unfold gk;rw [if_neg hb,gy]
    rw [aL]
    refine H.wg ?_;clear H;intro _ _ w H
    (first|refine az (id:=13) ad mixed [] [0,1,2,3,4,5,6,7,8,9,10,11,12,13,14,15,16,17,18,19,20,21,22,23,24,25,26,27,28,29] ab ?_|refine az (id:=18) ad mixed [2] [0,1,2,3,4,5] ab ?_);intro w aG;replace H:=Rel.ext H aG.ext
    refine wk ?_
    refine (zv H.data C lK aa (zf ho)).use ?_
    rintro v w ⟨rfl,K⟩
    (replace H:=H.aq K)
    cases ht:eu C (bP rs) with
    | true =>
     rw [if_pos rfl]
     refine H.wg ?_;clear H;intro w H
     exact ⟨V2,_,_,hV2,H.sx,rfl⟩
    | false =>
     rw [if_neg ae]
     refine H.wg ?_;clear H;intro w H
     exact ⟨V2,_,_,hV2,H.sx,rfl,rfl,lK⟩
end
section
variable {V W:World}
theorem K5 (hV:Sub V W) (hT:Lib.Utf8Tabs 0 1 V) {s:Sl} {l:List UInt8} (hs:ao V s l) (hl:l.length≤1099511627776):aj Tryz.prog 55 [s.v].toArray W (gZ W V (aU (eR l) l.length)):=by
 have H:=Rel.start hV
 have hlen:=hs.len
 refine eV Tryz.func55 35 [0,2,3,4,5,6,7,8,11,20] ?_
 refine wk ?_
 refine H.nA ?_;clear H;intro w b2 H
 refine wk ?_
 refine H.nA ?_;clear H;intro w b4 H
 by_cases bR:1000<l.length
 ·have e:aU (eR l) l.length=⟨zeroV,[],3, -1⟩:=by unfold aU;rw [if_pos bR]
  rw [e]
  refine wk ?_
  refine (w8 H.data 3 (-1)).use ?_
  rintro q w ⟨rfl,K⟩
  (replace H:=H.aq K)
  refine H.wg ?_;clear H;intro _ w H
  exact ⟨V,cw,⟨none,0,0⟩,Sub.refl _,H.sx,rfl,gG _,aw.nil _ _⟩
 refine wk ?_
 refine (Ox H.data hT hs aa).use ?_
 rintro q w ⟨V2,r,hV2,K,rfl,hr⟩
 (replace H:=H.aq K)
 obtain ⟨he,e5,hch⟩:=GG l
 obtain ⟨l1,l2⟩:=Gk hch he
 obtain ⟨cs,hcs⟩:∃cs,cs=(fp l).1:=⟨_,rfl⟩
 obtain ⟨e,HD⟩:∃e,e=(fp l).2:=⟨_,rfl⟩
 rw [←hcs] at hr hch l1 l2
 rw [←HD] at e5 ⊢
 have hto:eR l=if cs.any (fun c=>decide (tF c))=true then none else some (fD ((lines cs).1.flatMap aM),iz e (lines cs).2):=by unfold eR;rw [←hcs,←HD]
 refine wk ?_
 refine (NU (g:=121) (caps:=[]) H.data hr aa (fun c=>decide (tF c)) (fun x _ w hw=>Ou hw x)).use ?_
 rintro q w ⟨rfl,K⟩
 (replace H:=H.aq K)
 cases hd:cs.any (fun c=>decide (tF c)) with
 | true =>
  rw [hd,if_pos rfl] at hto
  have e:aU (eR l) l.length=⟨zeroV,[],21, -1⟩:=by unfold aU;rw [if_neg bR,hto]
  rw [e]
  refine wk ?_
  refine (w8 H.data 21 (-1)).use ?_
  rintro q w ⟨rfl,K⟩
  (replace H:=H.aq K)
  refine H.wg ?_;clear H;intro _ w H
  exact ⟨V2,cw,⟨none,0,0⟩,hV2,H.sx,rfl,gG _,aw.nil _ _⟩
 | false =>
  rw [hd,if_neg ae] at hto
  have e2:aU (eR l) l.length=⟨fD ((lines cs).1.flatMap aM),iz e (lines cs).2,0,0⟩:=by unfold aU;rw [if_neg bR,hto]
  rw [e2]
  obtain ⟨a1,a2,a3,a4,a5⟩:=yi _ cs (Nat.le_refl _)
  obtain ⟨r1,r2,r3,r4,r5⟩:=na (lines cs).2
  have ho:=sC (r3 a2 3 (by
   cases hk:(lines cs).2 with
   | nil=>simp
   | cons k ks=>have:=a2 k (by rw [hk];simp);simp;omega))
  have hr1:∀r∈bN (lines cs).2,1≤r.2:=zf (r3 a2 3 (by
   cases hk:(lines cs).2 with
   | nil=>simp
   | cons k ks=>have:=a2 k (by rw [hk];simp);simp;omega))
  refine wk ?_
  refine (Ue H.data hr aa hch).use ?_
  rintro q w ⟨V3,ra,rb,ar,K,rfl,hra,ft⟩
  (replace H:=H.aq K)
  refine wk ?_
  refine (Pn H.data e5 ft aa (fun r hr=>⟨(ho.2 r hr).1,hr1 r hr,by have:=(ho.2 r hr).2;omega⟩)).use ?_
  rintro q w ⟨rc,rfl,K⟩
  (replace H:=Rel.call H K)
  simp only [List.cons_append,List.nil_append] at H
  rw [r1] at H
  have hres:(if eu e (lines cs).2=true then [] else lk e (bN (lines cs).2))=iz e (lines cs).2:=rfl
  rw [hres] at H
  obtain ⟨V4,av,H,fu⟩:=Rel.aJ H (fun _=>rfl) ag
  refine H.wg ?_;clear H;intro _ w H
  exact ⟨V4,eU ra,rc,(hV2.trans ar).trans av,H.sx,rfl,qB (hra.up av),fu⟩
end
abbrev Bd (f:FuncId):Value:=.func (.func f) #[] #[]
abbrev iR (a b c:FuncId):Value:=.agg #[Bd a,Bd b,Bd c]
def mq:Nat→Value
 | 0=>.iface 58 (.agg #[])
 | 1=>.iface 73 (iR 55 56 57)
 | 2=>.iface 73 (iR 58 59 60)
 | 3=>.iface 73 (iR 61 62 63)
 | 4=>.iface 73 (iR 64 65 66)
 | 5=>.iface 73 (iR 67 68 69)
 | _=>.iface 73 (iR 70 71 72)
theorem S7 {x:Value} {w:World} {k:Value→World→Prop} (hk:k (.iface 58 x) w):aH Tryz.prog (Instr.makeInterface 58 x) w k:=.of (by simp [Instr.makeInterface,run_underlying Tryz.underlying58]) hk
theorem S6 {x:Value} {w:World} {k:Value→World→Prop} (hk:k (.iface 73 x) w):aH Tryz.prog (Instr.makeInterface 73 x) w k:=.of (by simp [Instr.makeInterface,run_underlying Tryz.underlying73]) hk
theorem S0 (u:Value):wc Tryz.prog 73 u "scriptorium/convert.to" 401 u:=fun w=>by kernel_rfl
section
variable {V W:World}
theorem O7 (hV:Sub V W) (c i:Int):aj Tryz.prog 21 [iv c,iv i].toArray W fun v w'=>v=gq c i∧Rel W V [] V w':=by
 have H:=Rel.start hV
 refine eV Tryz.func21 8 [0,1,4] ?_
 refine H.wg ?_;clear H;intro _ _ w H
 exact H.sx
theorem GJ (hV:Sub V W) {z:Int} (hz:0≤z∧z<7):aj Tryz.prog 22 [iv z].toArray W fun v w'=>v=.tuple #[mq z.toNat,.bool true]∧Rel W V [] V w':=by
 have H:=Rel.start hV
 refine eV Tryz.func22 29 [0,2,3,4,25] ?_
 refine wk ?_
 refine S7 ?_
 refine wk ?_
 iterate 6
  refine S6 ?_
  refine wk ?_
 refine aH.of (v:=.agg #[mq 0,mq 1,mq 2,mq 3,mq 4,mq 5,mq 6]) (w':=W) ab ?_
 refine wk ?_
 refine H.nA ?_;clear H;intro w b4 H
 have h7:z=0∨z=1∨z=2∨z=3∨z=4∨z=5∨z=6:=aa
 rcases h7 with rfl|rfl|rfl|rfl|rfl|rfl|rfl
 all_goals
  refine H.wg ?_;clear H;intro w H
  exact H.sx
theorem se (hV:Sub V W) {a b c:FuncId} {s:Sl} {x:zT} (hto:∀ {W:World},Sub V W→aj Tryz.prog a [s.v].toArray W (gZ W V x)):aj Tryz.prog 401 [iR a b c,s.v].toArray W (gZ W V x):=by
 have H:=Rel.start hV
 refine eV Tryz.func401 14 [0,1,2,4,5,6] ?_
 refine wk ?_
 refine H.nA ?_;clear H;intro w b2 H
 refine wk ?_
 refine H.nA ?_;clear H;intro w b4 H
 refine wk ?_
 refine H.nA ?_;clear H;intro w b6 H
 refine wk ?_
 refine (hto H.data).use ?_
 rintro q w ⟨V2,h,r,hV2,K,rfl,hv,hr⟩
 (replace H:=Rel.call H K)
 simp only [List.nil_append] at H
 refine H.wg ?_;clear H;intro _ w H
 exact ⟨V2,h,r,hV2,H.sx,rfl,hv,hr⟩
theorem TJ (hV:Sub V W) {a b c:FuncId} {h:VH} {s:Sl} {x:List UInt8×Int×Int} (hfr:∀ {W:World},Sub V W→aj Tryz.prog b [fG h,s.v].toArray W (sY W V x)):aj Tryz.prog 400 [iR a b c,fG h,s.v].toArray W (sY W V x):=by
 have H:=Rel.start hV
 refine eV Tryz.func400 15 [0,1,2,3,4,6,7] ?_
 refine wk ?_
 refine H.nA ?_;clear H;intro w b3 H
 refine wk ?_
 refine H.nA ?_;clear H;intro w b4 H
 refine wk ?_
 refine H.nA ?_;clear H;intro w b7 H
 refine wk ?_
 refine (hfr H.data).use ?_
 rintro q w ⟨V2,r,hV2,K,rfl,hr⟩
 (replace H:=Rel.call H K)
 simp only [List.nil_append] at H
 refine H.wg ?_;clear H;intro w H
 exact ⟨V2,r,hV2,H.sx,rfl,hr⟩
end
structure jM (V:World):Prop where
 tb:kA V
 nm:jP V
 mb:jO V
 mt:nt V
theorem jM.up {V V':World} (h:jM V) (k:Sub V V'):jM V':=⟨sH h.tb k,h.nm.up k,h.mb.up k,h.mt.up k⟩
def kr:Nat→List UInt8→Option (ah×List UInt8)
 | 0=>eo
 | 1=>eg
 | 2=>eZ
 | 3=>eD
 | 4=>fi
 | _=>eR
def R1:Nat→Int
 | 0=>3
 | 1=>2
 | 2=>6
 | 3=>4
 | 4=>5
 | _=>1
theorem Oi {j:Nat} {l:List UInt8} {x:ah×List UInt8} (hj:j<6) (hn:∀i,i<j→kr i l=none) (hx:kr j l=some x):eK l=pb (R1 j) x:=by
 have h6:j=0∨j=1∨j=2∨j=3∨j=4∨j=5:=aa
 have g:=fun i hi=>hn i hi
 rcases h6 with rfl|rfl|rfl|rfl|rfl|rfl<;>unfold eK
 ·have h0:eo l=some x:=hx
  rw [h0];rfl
 ·have h0:eo l=none:=hn 0 aa
  have h1:eg l=some x:=hx
  rw [h0,h1];rfl
 ·have h0:eo l=none:=hn 0 aa
  have h1:eg l=none:=hn 1 aa
  have h2:eZ l=some x:=hx
  rw [h0,h1,h2];rfl
 ·have h0:eo l=none:=hn 0 aa
  have h1:eg l=none:=hn 1 aa
  have h2:eZ l=none:=hn 2 aa
  have h3:eD l=some x:=hx
  rw [h0,h1,h2,h3];rfl
 ·have h0:eo l=none:=hn 0 aa
  have h1:eg l=none:=hn 1 aa
  have h2:eZ l=none:=hn 2 aa
  have h3:eD l=none:=hn 3 aa
  have h4:fi l=some x:=hx
  rw [h0,h1,h2,h3,h4];rfl
 ·have h0:eo l=none:=hn 0 aa
  have h1:eg l=none:=hn 1 aa
  have h2:eZ l=none:=hn 2 aa
  have h3:eD l=none:=hn 3 aa
  have h4:fi l=none:=hn 4 aa
  have h5:eR l=some x:=hx
  rw [h0,h1,h2,h3,h4,h5];rfl
theorem Ok {l:List UInt8} (hn:∀i,i<6→kr i l=none):eK l=(0,.mk 2 0 l [] [],[]):=by
 unfold eK
 have h0:eo l=none:=hn 0 aa
 have h1:eg l=none:=hn 1 aa
 have h2:eZ l=none:=hn 2 aa
 have h3:eD l=none:=hn 3 aa
 have h4:fi l=none:=hn 4 aa
 have h5:eR l=none:=hn 5 aa
 rw [h0,h1,h2,h3,h4,h5]
abbrev yQ (k:Int) (h:VH) (r:Sl):Value:=.agg (iv k::(br h++[r.v])).toArray
structure Md (W V:World) (x:oT×Int×Int) (q:Value) (w':World):Prop where
 ex:∃(V':World) (h:VH) (r:Sl),Sub V V'∧Rel W V [] V' w'∧q=.tuple #[yQ x.1.1 h r,gq x.2.1 x.2.2]∧bc V' h x.1.2.1∧ao V' r x.1.2.2
def jX (l:List UInt8):oT×Int×Int:=if 1000<l.length then ((0,zeroV,[]),3, -1) else (eK l,0,0)
section
variable {V W:World}
theorem Ud (hV:Sub V W) {s:Sl} {l:List UInt8} (hs:ao V s l) (hl:l.length≤1000000):aj Tryz.prog 23 [.agg #[],s.v].toArray W (gZ W V ⟨.mk 2 0 l [] [],[],0,0⟩):=by
 have H:=Rel.start hV
 refine eV Tryz.func23 11 [0,1,4,5,6] ?_
 refine wk ?_
 refine H.nA ?_;clear H;intro w b2 H
 refine wk ?_
 refine H.nA ?_;clear H;intro w b4 H
 refine wk ?_
 refine H.nA ?_;clear H;intro w b6 H
 refine wk ?_
 refine (pa H.data hs aa).use ?_
 rintro q w ⟨r,rfl,K⟩
 (replace H:=Rel.call H K)
 simp only [List.cons_append,List.nil_append] at H
 obtain ⟨V2,hV2,H,hr⟩:=Rel.aJ H (fun _=>rfl) ag
 refine H.wg ?_;clear H;intro _ w H
 exact ⟨V2,eU r,⟨none,0,0⟩,hV2,H.sx,rfl,qB hr,aw.nil _ _⟩
theorem SL (hV:Sub V W) {s:Sl} {l:List UInt8} (hs:ao V s l) (hl:l.length≤1048576):aj Tryz.prog 401 [iR 61 62 63,s.v].toArray W (gZ W V (aU (kr 0 l) l.length)):=se hV fun h=>WU h hs aa
theorem SK (hV:Sub V W) {s:Sl} {l:List UInt8} (hs:ao V s l) (hl:l.length≤1048576):aj Tryz.prog 401 [iR 58 59 60,s.v].toArray W (gZ W V (aU (kr 1 l) l.length)):=se hV fun h=>WT h hs aa
theorem SJ (hV:Sub V W) (hT:jM V) {s:Sl} {l:List UInt8} (hs:ao V s l) (hl:l.length≤1048576):aj Tryz.prog 401 [iR 70 71 72,s.v].toArray W (gZ W V (aU (kr 2 l) l.length)):=se hV fun h=>WS h hT.mt hs aa
theorem SM (hV:Sub V W) (hT:jM V) {s:Sl} {l:List UInt8} (hs:ao V s l) (hl:l.length≤1048576):aj Tryz.prog 401 [iR 64 65 66,s.v].toArray W (gZ W V (aU (kr 3 l) l.length)):=se hV fun h=>WV h hT.tb hT.mb hs aa
theorem SN (hV:Sub V W) (hT:jM V) {s:Sl} {l:List UInt8} (hs:ao V s l) (hl:l.length≤1048576):aj Tryz.prog 401 [iR 67 68 69,s.v].toArray W (gZ W V (aU (kr 4 l) l.length)):=se hV fun h=>WW h hT.nm hs aa
theorem SO (hV:Sub V W) (hT:jM V) {s:Sl} {l:List UInt8} (hs:ao V s l) (hl:l.length≤1048576):aj Tryz.prog 401 [iR 55 56 57,s.v].toArray W (gZ W V (aU (kr 5 l) l.length)):=se hV fun h=>K5 h hT.tb hs aa
theorem vJ (hV:Sub V W) (hT:jM V) {s:Sl} {l:List UInt8} (hs:ao V s l) (hl:l.length≤1048576):aj Tryz.prog 9 [s.v].toArray W (Md W V (jX l)):=by
 have H:=Rel.start hV
 have hlen:=hs.len
 refine eV Tryz.func9 56 [0,2,3,5,6,8,9,10,11,13,16,19,20,21,22,39] ?_
 refine wk ?_
 refine H.nA ?_;clear H;intro w b2 H
 refine wk ?_
 refine H.nA ?_;clear H;intro w b3 H
 by_cases bR:1000<l.length
 ·have e:jX l=((0,zeroV,[]),3, -1):=if_pos bR
  rw [e]
  refine wk ?_
  refine (O7 H.data _ _).use ?_
  rintro q w ⟨rfl,K⟩
  (replace H:=H.aq K)
  refine H.wg ?_;clear H;intro _ w H
  exact ⟨V,cw,⟨none,0,0⟩,Sub.refl _,H.sx,rfl,gG _,aw.nil _ _⟩
 have e:jX l=(eK l,0,0):=if_neg bR
 rw [e]
 refine wk ?_
 refine H.nA ?_;clear H;intro w b4 H
 refine wk ?_
 refine aB.cut 0 (fun _:Unit=>[(0,s.v),(2,.pointer (some ⟨b2,0,none⟩)),(3,.pointer (some ⟨b3,0,none⟩))]) (fun _ w'=>(∀i,i<6→kr i l=none)∧∃V',Sub V V'∧Rel W V [.al b3 [iv 0,iv 0] 31,.al b2 (iv 0::(br cw++[.slice none 0 0])) 29] V' w') ?_ ?_
 ·refine aK (S:=Nat) ad [0,2,3,11,13,16,19,20] (fun j=>[(21,iv j)]) (fun j w'=>j≤6∧(∀i,i<j→kr i l=none)∧∃V',Sub V V'∧Rel W V [.al b4 [iv 3,iv 2,iv 6,iv 4,iv 5,iv 1] 3,.al b3 [iv 0,iv 0] 31,.al b2 (iv 0::(br cw++[.slice none 0 0])) 29] V' w') (fun j _=>6 - j) 0 ?_
  conv=>whnf
  refine ⟨sB,⟨aa,fun i hi=>absurd hi aa,V,Sub.refl _,H.sx⟩,?_⟩
  clear H
  rintro j w ⟨hj,hn,V1,hV1,H⟩
  by_cases h6:j=6
  ·subst h6
   refine wk ?_
   exact ⟨(),sB,hn,V1,hV1,H.sx⟩
  have QN:j<6:=aa
  have h7:j=0∨j=1∨j=2∨j=3∨j=4∨j=5:=aa
  rcases h7 with rfl|rfl|rfl|rfl|rfl|rfl
  all_goals
   refine wk ?_
   refine (GJ H.data ag).use ?_
   rintro q w ⟨rfl,K⟩
   (replace H:=H.aq K)
   refine wk ?_
   refine ⟨_,_,S0 _,?_⟩
   first
    | refine (SL H.data (hs.up hV1) hl).use ?_
    | refine (SK H.data (hs.up hV1) hl).use ?_
    | refine (SJ H.data (hT.up hV1) (hs.up hV1) hl).use ?_
    | refine (SM H.data (hT.up hV1) (hs.up hV1) hl).use ?_
    | refine (SN H.data (hT.up hV1) (hs.up hV1) hl).use ?_
    | refine (SO H.data (hT.up hV1) (hs.up hV1) hl).use ?_
   rintro q w ⟨V2,h,r,hV2,K,rfl,hv,hr⟩
   (replace H:=H.aq K)
   generalize ho:kr _ l=o at hv hr ⊢
   unfold aU at hv hr ⊢
   rw [if_neg bR] at hv hr ⊢
   cases o with
   | none =>
    dsimp only at hv hr ⊢
    refine wk ?_
    refine H.nA ?_;clear H;intro w b8 H
    refine wk ?_
    refine H.nA ?_;clear H;intro w wx H
    refine H.wg ?_;clear H;intro _ w H
    first
     | refine ⟨sB,1,sB,⟨aa,?_,V2,hV1.trans hV2,H.sx⟩,aa⟩
     | refine ⟨sB,2,sB,⟨aa,?_,V2,hV1.trans hV2,H.sx⟩,aa⟩
     | refine ⟨sB,3,sB,⟨aa,?_,V2,hV1.trans hV2,H.sx⟩,aa⟩
     | refine ⟨sB,4,sB,⟨aa,?_,V2,hV1.trans hV2,H.sx⟩,aa⟩
     | refine ⟨sB,5,sB,⟨aa,?_,V2,hV1.trans hV2,H.sx⟩,aa⟩
     | refine ⟨sB,6,sB,⟨aa,?_,V2,hV1.trans hV2,H.sx⟩,aa⟩
    intro i hi
    rcases Nat.lt_succ_iff_lt_or_eq.1 hi with h|rfl
    ·exact hn i h
    ·exact ho
   | some x =>
    rw [Oi QN hn ho]
    dsimp only at hv hr ⊢
    refine wk ?_
    refine H.nA ?_;clear H;intro w b8 H
    refine wk ?_
    refine H.nA ?_;clear H;intro w wx H
    refine H.wg ?_;clear H;intro _ _ _ w H
    exact ⟨V2,h,r,hV1.trans hV2,H.sx,rfl,hv,hr⟩
 clear H
 rintro ⟨⟩ w ⟨hn,V1,hV1,H⟩
 rw [Ok hn]
 refine wk ?_
 refine (Ud H.data (hs.up hV1) aa).use ?_
 rintro q w ⟨V2,h,r,hV2,K,rfl,hv,hr⟩
 (replace H:=H.aq K)
 dsimp only at hv hr ⊢
 refine wk ?_
 refine H.nA ?_;clear H;intro w Ae H
 refine wk ?_
 refine H.nA ?_;clear H;intro w Af H
 refine H.wg ?_;clear H;intro _ w H
 (first|refine nK (id:=12) ad mixed (dD [b2]) (fun _ _ _=>dD.trans) [3] [2] [0,1,2,3,4] ab ?_);intro w aG;replace H:=Rel.ext H aG.ext
 refine wk ?_
 refine And.intro (fun w1 mN=>?_) ?_;focus (obtain ⟨_,H1⟩:=Rel.vw H (i:=3) rfl rfl mN;clear H;have H:=H1;clear H1;((repeat ((conv=>whnf);first|refine an ?_|((first|refine H.qf ?_|refine H.nw ?_);clear H;intro w _ H)|refine H.ce ?_|refine H.db ?_|refine ea ?_|refine ol ?_|(refine H.st ?_;(conv=>whnf);clear H;intro w H)|refine cT ?_|refine cF ?_|refine cN ?_|refine cM ?_|refine H.lw ?_|refine H.ll ?_));(conv=>whnf));try exact ⟨rfl,rfl⟩)
 refine wk ?_
 refine Rel.vD H (i:=3) rfl ?_;(conv=>whnf);clear H;intro w H
 refine H.wg ?_;clear H;intro w H
 exact ⟨V2,h,⟨none,0,0⟩,hV1.trans hV2,H.sx,rfl,hv,aw.nil _ _⟩
end
theorem Ly {c:Nat} (h:c≠10) (r ks:List Nat):dA (c::r) ks=(dA r ks).map (c::·):=by simp only [dA];rw [if_neg h]
theorem Lw (r:List Nat) (k:Nat) (ks:List Nat):dA (10::r) (k::ks)=(dA r ks).map (tH k++·):=by simp only [dA,if_true]
theorem Lx (r:List Nat):dA (10::r) []=none:=by simp only [dA,if_true]
theorem Kn (k n:Nat) (rs:List bK):bP ((k,n+1)::rs)=k::bP ((k,n)::rs):=rfl
theorem DI (k:Nat) (rs:List bK):bP ((k,0)::rs)=bP rs:=rfl
theorem DJ (ds:List bK) (k n:Nat) (rs:List bK):((aC (ds++(k,n+1)::rs)).flatMap cv).set (ds.length*2+1) (iv (n:Int))=(aC (ds++(k,n)::rs)).flatMap cv:=by
 have hl:((aC ds).flatMap cv).length=ds.length*2:=by rw [jZ (n:=2) (fun _=>rfl)];simp [aC]
 unfold aC
 rw [List.map_append,List.flatMap_append,List.map_append,List.flatMap_append]
 unfold aC at hl
 rw [List.set_append_right _ _ aa,hl,show ds.length*2+1 - ds.length*2=1 by omega]
 rfl
theorem DX {a:Option Addr} (h:Plain a) {l m n:Nat} (hm:m≠l):aD a l m n=some ⟨aN a,aI a+l*n,none⟩:=by
 have:=qy h (l:=l) (m:=m) (size:=n)
 rw [Plain,qw,qx h hm] at this
 exact this
theorem Pj {α:Type} {f:α→List Value} {l:List α} (h:∀x,(f x).all Value.oneCell'=true):∀u∈l.flatMap f,u.oneCell'=true:=by
 intro u hu
 obtain ⟨x,_,hx⟩:=List.mem_flatMap.1 hu
 exact List.all_eq_true.1 (h x) u hx
structure Mu (rc r7:Sl) (d:Nat) (rs:List bK):Prop where
 len:r7.len=rs.length
 cap:r7.len≤r7.cap
 at_:rs≠[]→r7.a=some ⟨aN rc.a,aI rc.a+d*2,none⟩
section
variable {V W:World}
theorem NK (hV:Sub V W) {s:Sl} {l:List aR} (hs:aw cv V s l) (hl:l.length≤1000000000):aj Tryz.prog 205 [s.v].toArray W fun v w'=>∃t:Sl,v=t.v∧Rel W V [.row t 250 2 (l.flatMap cv)] V w':=by
 have H:=Rel.start hV
 have hlen:=hs.len
 refine eV Tryz.func205 8 [0,2,4] ?_
 rcases s with ⟨_|p,n,c⟩
 ·have mI:l=[]:=by
   rcases l with _|⟨b,l⟩
   ·rfl
   ·have:=hs.cells.1 (by simp [cv])
    simp [Plain] at this
  subst mI
  refine wk ?_
  exact ⟨⟨none,0,0⟩,rfl,H.bw _ _⟩
 ·refine wk ?_
  refine H.nA ?_;clear H;intro w b5 H
  refine wk ?_
  replace H:=H.gj (n:=0) (e:=250) (sz:=2) rfl (by simp [maxLen])
  refine Rel.ET (s:=⟨some ⟨b5,0,none⟩,0,0⟩) (x:=⟨some p,n,c⟩) ad rfl rfl rfl rfl rfl ag H (hs.up H.data).cells (jZ (n:=2) (fun _=>rfl) l |>.trans (by rw [←hlen])) (Pj (fun _=>rfl)) (by simp;dsimp only at hlen;omega) (by simp;dsimp only at hlen;omega) ?_
  clear H
  intro rn w H uz
  refine wk ?_
  exact ⟨rn,rfl,H⟩
theorem R0 (hV:Sub V W) {s:Sl} {t:List UInt8} (hs:ao V s t) (htl:t.length≤1048576) {l:List Nat} (hc:chars t=some l) {e:Nat} {q:Sl} {rs:List bK} (hq:aw cv V q (aC rs)) (hrl:rs.length≤1000) (hr1:∀r∈rs,r.1<3∧1≤r.2∧r.2≤1000) (htr:eu e (bP rs)=true→rs=[]) :
  aj Tryz.prog 127 [s.v,.agg (oA e q).toArray].toArray W (EG W V (if eu e (bP rs)=true then some l else dA l (bP rs))):=by
 have H:=Rel.start hV
 have hlen:=hs.len
 have cq:(aC rs).length=rs.length:=by simp [aC]
 have hsz:(ByteArray.mk t.toArray).size=t.length:=rfl
 refine eV Tryz.func127 69 [0,1,3,4,5,6,7,9,15,16,17,24,31,35,36,41,46,62] ?_
 refine wk ?_
 refine H.nA ?_;clear H;intro w b3 H
 refine wk ?_
 refine (NK H.data hq aa).use ?_
 rintro v w ⟨rc,rfl,K⟩
 (replace H:=Rel.call H K)
 simp only [List.cons_append,List.nil_append] at H
 have mD:Cells w s.a (t.map bv):=fm t ▸ (hs.up H.data).cells
 have Ig:=H.dz (i:=0) rfl (fun _=>rfl) ag
 refine wk ?_
 replace H:=H.bw 21 1
 refine Rel.range ad rfl rfl H ?_
 clear H
 intro w bi H
 refine wk ?_
 cases ht:eu e (bP rs) with
 | true =>
  have aS:=htr ht
  rw [if_pos rfl]
  refine aK (S:=Nat×Sl×List Nat) ad [0,1,3,15] (fun q=>[(6,q.2.1.v),(7,rc.v)]) (fun q' w'=>q'.1≤t.length∧(chars (t.drop q'.1)).isSome=true∧chars t=(chars (t.drop q'.1)).map (q'.2.2++·)∧q'.2.2.length≤q'.1∧Rel W V [.obj bi (.stringIter ⟨t.toArray⟩ q'.1),.row q'.2.1 21 1 (q'.2.2.flatMap cb),.al b3 (oA e q) 150] V w') (fun q _=>t.length - q.1) (0,⟨none,0,0⟩,[]) ?_
  conv=>whnf
  refine ⟨sB,⟨aa,by rw [List.drop_zero,hc];rfl,ae,Nat.le_refl _,H.sx⟩,?_⟩
  clear H
  rintro ⟨p,r6,out⟩ w ⟨hp,fJ,heq,gx,H⟩
  dsimp only at hp fJ heq gx H ⊢
  conv=>whnf
  refine Rel.next H (fun hlt w H=>?_) (fun hlt=>?_)
  ·have nX:p<t.length:=hlt
   obtain ⟨c,n,dZ,HS,uu,hn2,hst⟩:=An fJ nX
   rw [AU dZ] at H ⊢
   dsimp only at H ⊢
   have kM:(chars (t.drop (p+n))).isSome=true:=by
    rw [hst] at fJ
    cases hq:chars (t.drop (p+n)) with
    | none=>rw [hq] at fJ;cases fJ
    | some _=>rfl
   by_cases gM:c=10
   ·refine wk ?_
    refine (zv H.data e hq aa (fun r hr=>(hr1 r hr).2.1)).use ?_
    rintro v w ⟨rfl,K⟩
    (replace H:=H.aq K)
    rw [ht]
    refine H.wg ?_;clear H;intro _ w H
    refine Rel.cy (f:=cb) (l:=out) (x:=c) ad rfl rfl rfl rfl rfl ag (fun _=>rfl) (List.all_eq_true.1 rfl) H (by show (out.length+1)*4≤_;omega) aa ?_
    clear H
    intro rn w H
    refine wk ?_
    refine ⟨sB,(p+n,rn,out++[c]),sB,⟨by dsimp only;omega,by dsimp only;exact kM,?_,by dsimp only;rw [List.length_append,List.length_singleton];omega,H.sx⟩,by dsimp only;omega⟩
    dsimp only
    rw [heq,hst]
    exact iN out [c] _
   ·refine H.wg ?_;clear H;intro _ w H
    refine Rel.cy (f:=cb) (l:=out) (x:=c) ad rfl rfl rfl rfl rfl ag (fun _=>rfl) (List.all_eq_true.1 rfl) H (by show (out.length+1)*4≤_;omega) aa ?_
    clear H
    intro rn w H
    refine wk ?_
    refine ⟨sB,(p+n,rn,out++[c]),sB,⟨by dsimp only;omega,by dsimp only;exact kM,?_,by dsimp only;rw [List.length_append,List.length_singleton];omega,H.sx⟩,by dsimp only;omega⟩
    dsimp only
    rw [heq,hst]
    exact iN out [c] _
  ·have nX:¬p<t.length:=hlt
   rw [List.drop_of_length_le aa,Fc,hc] at heq
   have B5:out=l:=by simpa using heq.symm
   rw [B5] at H
   have H0:Rel W V [.row r6 21 1 (l.flatMap cb)] V w:=H.sx
   clear H
   obtain ⟨V3,ar,H,hr⟩:=Rel.aJ H0 (fun _=>rfl) ag
   clear H0
   have hz:rc.len=0:=by rw [Ig,cq,aS];rfl
   refine wk ?_
   exact ⟨V3,r6,ar,H.sx,by rw [decide_eq_true aa],hr⟩
 | false =>
  rw [if_neg ae]
  refine aK (S:=Nat×Sl×List Nat×Sl×List bK×List bK) ad [0,1,3,15] (fun q=>[(6,q.2.1.v),(7,q.2.2.2.1.v)]) (fun z w'=>z.1≤t.length∧(chars (t.drop z.1)).isSome=true∧(∀r,chars (t.drop z.1)=some r→dA l (bP rs)=(dA r (bP z.2.2.2.2.2)).map (z.2.2.1++·))∧z.2.2.1.length≤2*z.1∧Mu rc z.2.2.2.1 z.2.2.2.2.1.length z.2.2.2.2.2∧(∀r∈z.2.2.2.2.2,r.1<3∧1≤r.2∧r.2≤1000)∧Rel W V [.obj bi (.stringIter ⟨t.toArray⟩ z.1),.row z.2.1 21 1 (z.2.2.1.flatMap cb),.row rc 250 2 ((aC (z.2.2.2.2.1++z.2.2.2.2.2)).flatMap cv),.al b3 (oA e q) 150] V w') (fun q _=>t.length - q.1) (0,⟨none,0,0⟩,[],rc,[],rs) ?_
  conv=>whnf
  refine ⟨sB,⟨aa,by rw [List.drop_zero,hc];rfl,fun r hr=>?_,Nat.le_refl _,⟨by dsimp only;omega,?_,fun hne=>?_⟩,hr1,H⟩,?_⟩
  ·dsimp only at hr ⊢
   rw [List.drop_zero,hc] at hr
   cases hr
   simp
  ·exact (H.dO (i:=2) rfl (fun _=>rfl) ag).cap
  ·have hp:=(H.dO (i:=2) rfl (fun _=>rfl) ag).cells.1 (by
    cases rs with
    | nil=>exact absurd rfl hne
    | cons r rs=>simp [aC])
   dsimp only [List.length_nil]
   rw [Nat.zero_mul,Nat.add_zero]
   exact hp
  clear H
  rintro ⟨p,r6,out,r7,ds,rs'⟩ w ⟨hp,fJ,hu,gx,hR,lJ,H⟩
  dsimp only at hp fJ hu gx hR lJ H ⊢
  have Ie:=H.dz (i:=1) rfl (fun _=>rfl) ag
  have Ig:=H.dz (i:=2) rfl (fun _=>rfl) ag
  have QL:(aC (ds++rs')).length=ds.length+rs'.length:=by simp [aC]
  have mz:=hR.len
  have YP:=hR.cap
  conv=>whnf
  refine Rel.next H (fun hlt w H=>?_) (fun hlt=>?_)
  ·have nX:p<t.length:=hlt
   obtain ⟨c,n,dZ,HS,uu,hn2,hst⟩:=An fJ nX
   rw [AU dZ] at H ⊢
   dsimp only at H ⊢
   have kM:(chars (t.drop (p+n))).isSome=true:=by
    rw [hst] at fJ
    cases hq:chars (t.drop (p+n)) with
    | none=>rw [hq] at fJ;cases fJ
    | some _=>rfl
   obtain ⟨X,hX⟩:∃X,chars (t.drop (p+n))=some X:=Option.isSome_iff_exists.1 kM
   have hu2:=hu (c::X) (by rw [hst,hX];rfl)
   by_cases gM:c=10
   rotate_left
   ·rw [Ly gM] at hu2
    refine H.wg ?_;clear H;intro _ w H
    refine Rel.cy (f:=cb) (l:=out) (x:=c) ad rfl rfl rfl rfl rfl ag (fun _=>rfl) (List.all_eq_true.1 rfl) H (by show (out.length+1)*4≤_;omega) aa ?_
    clear H
    intro rn w H
    refine wk ?_
    refine ⟨sB,(p+n,rn,out++[c],r7,ds,rs'),sB,⟨by dsimp only;omega,by dsimp only;exact kM,?_,by dsimp only;rw [List.length_append,List.length_singleton];omega,hR,lJ,H.sx⟩,by dsimp only;omega⟩
    intro r hr
    dsimp only at hr ⊢
    rw [hX] at hr
    cases hr
    rw [hu2]
    exact iN out [c] _
   rw [gM] at hu2
   refine wk ?_
   refine (zv H.data e hq aa (fun r hr=>(hr1 r hr).2.1)).use ?_
   rintro v w ⟨rfl,K⟩
   (replace H:=H.aq K)
   rw [ht]
   cases rs' with
   | nil =>
    rw [show bP []=[] from rfl,Lx] at hu2
    rw [hu2]
    simp only [List.length_nil] at mz
    refine wk ?_
    exact ⟨V,⟨none,0,0⟩,Sub.refl _,H.sx,rfl⟩
   | cons x dv =>
    obtain ⟨k,m⟩:=x
    obtain ⟨dH,uq,hm2⟩:=lJ (k,m) ae
    dsimp only at dH uq hm2
    obtain ⟨m,rfl⟩:∃j,m=j+1:=⟨m - 1,aa⟩
    rw [Kn,Lw] at hu2
    have hat:=hR.at_ ae
    have B8:Plain r7.a:=by rw [hat];rfl
    have gv:aN r7.a=aN rc.a:=by rw [hat];rfl
    have lH:aI r7.a=aI rc.a+ds.length*2:=by rw [hat];rfl
    simp only [List.length_cons] at mz QL
    have S1:=H.dO (i:=2) rfl (fun _=>rfl) ag
    obtain ⟨_,u1,_⟩:=S1.dW (g:=fun r:aR=>iv r.1) (g':=fun r:aR=>iv r.2) (fun _=>rfl) (i:=ds.length) aa
    have dG:∀j,(aC (ds++(k,j)::dv))[ds.length]'(by simp [aC])=cR (k,j):=fun j=>by simp [aC]
    rw [dG,←gv,←lH] at u1
    dsimp only [cR] at u1
    have kN:k=0∨k=1∨k=2:=aa
    rcases kN with rfl|rfl|rfl
    ·refine wk ?_
     refine H.nA ?_;clear H;intro w bq H
     refine wk ?_
     refine Rel.Ad (s:=r6) (x:=⟨some ⟨bq,0,none⟩,1,1⟩) (xs:=out.flatMap cb) (ys:=[rv 10]) ad rfl rfl rfl rfl rfl ag H (H.qW).cells rfl (by simp [Value.oneCell']) (by show (r6.len+1)*4≤_;omega) (by dsimp only;omega) ?_
     clear H
     intro rn w H _
     rw [show out.flatMap cb++[rv 10]=(out++[10]).flatMap cb by rw [List.flatMap_append];rfl] at H
     have S2:=H.dO (i:=3) rfl (fun _=>rfl) ag
     obtain ⟨_,_,u2⟩:=S2.dW (g:=fun r:aR=>iv r.1) (g':=fun r:aR=>iv r.2) (fun _=>rfl) (i:=ds.length) aa
     rw [dG,←gv,←lH] at u2
     dsimp only [cR] at u2
     refine wk ?_
     rw [show (((m+1:Nat):Int) - 1)=((m:Nat):Int) by omega]
     refine Rel.qv (i:=3) H rfl (ds.length*2+1) aa gv (by show aI r7.a+0*2+1=_;omega) ?_
     clear H
     intro w H
     simp only [List.set_cons_succ,List.set_cons_zero] at H
     rw [DJ] at H
     have S3:=H.dO (i:=3) rfl (fun _=>rfl) ag
     have HT:(aC (ds++(0,m)::dv)).length=ds.length+(dv.length+1):=by simp [aC]
     obtain ⟨_,_,u3⟩:=S3.dW (g:=fun r:aR=>iv r.1) (g':=fun r:aR=>iv r.2) (fun _=>rfl) (i:=ds.length) aa
     rw [dG,←gv,←lH] at u3
     dsimp only [cR] at u3
     by_cases uo:m=0
     ·subst uo
      refine wk ?_
      refine ⟨sB,(p+n,rn,out++[10],⟨aD r7.a 1 r7.cap 2,r7.len - 1,r7.cap - 1⟩,ds++[(0,0)],dv),sB,⟨by dsimp only;omega,by dsimp only;exact kM,?_,by dsimp only;rw [List.length_append];simp only [List.length_cons,List.length_nil];omega,⟨by dsimp only;omega,by dsimp only;omega,fun hne=>?_⟩,fun r hr=>lJ r (by simp [hr]),?_⟩,by dsimp only;omega⟩
      ·intro r hr
       dsimp only at hr ⊢
       rw [hX] at hr
       cases hr
       rw [hu2,DI]
       exact iN out [10] _
      ·have hpos:=List.length_pos_iff.2 hne
       dsimp only at hpos ⊢
       rw [DX B8 aa,List.length_append,List.length_singleton,gv,lH,show aI rc.a+ds.length*2+1*2=aI rc.a+(ds.length+1)*2 by omega]
      ·dsimp only
       rw [List.append_assoc]
       exact H.sx
     ·refine wk ?_
      refine ⟨sB,(p+n,rn,out++[10],r7,ds,(0,m)::dv),sB,⟨by dsimp only;omega,by dsimp only;exact kM,?_,by dsimp only;rw [List.length_append];simp only [List.length_cons,List.length_nil];omega,⟨by simp only [List.length_cons];omega,by dsimp only;omega,fun _=>hat⟩,fun r hr=>?_,H.sx⟩,by dsimp only;omega⟩
      ·intro r hr
       dsimp only at hr ⊢
       rw [hX] at hr
       cases hr
       rw [hu2]
       exact iN out [10] _
      ·rcases List.mem_cons.1 hr with rfl|hr
       ·exact ⟨dH,by dsimp only;omega,by dsimp only;omega⟩
       ·exact lJ r (by simp [hr])
    ·refine wk ?_
     refine H.nA ?_;clear H;intro w bq H
     refine wk ?_
     refine Rel.Ad (s:=r6) (x:=⟨some ⟨bq,0,none⟩,2,2⟩) (xs:=out.flatMap cb) (ys:=[rv 13,rv 10]) ad rfl rfl rfl rfl rfl ag H (H.qW).cells rfl (by simp [Value.oneCell']) (by show (r6.len+2)*4≤_;omega) (by dsimp only;omega) ?_
     clear H
     intro rn w H _
     rw [show out.flatMap cb++[rv 13,rv 10]=(out++[13,10]).flatMap cb by rw [List.flatMap_append];rfl] at H
     have S2:=H.dO (i:=3) rfl (fun _=>rfl) ag
     obtain ⟨_,_,u2⟩:=S2.dW (g:=fun r:aR=>iv r.1) (g':=fun r:aR=>iv r.2) (fun _=>rfl) (i:=ds.length) aa
     rw [dG,←gv,←lH] at u2
     dsimp only [cR] at u2
     refine wk ?_
     rw [show (((m+1:Nat):Int) - 1)=((m:Nat):Int) by omega]
     refine Rel.qv (i:=3) H rfl (ds.length*2+1) aa gv (by show aI r7.a+0*2+1=_;omega) ?_
     clear H
     intro w H
     simp only [List.set_cons_succ,List.set_cons_zero] at H
     rw [DJ] at H
     have S3:=H.dO (i:=3) rfl (fun _=>rfl) ag
     have HT:(aC (ds++(1,m)::dv)).length=ds.length+(dv.length+1):=by simp [aC]
     obtain ⟨_,_,u3⟩:=S3.dW (g:=fun r:aR=>iv r.1) (g':=fun r:aR=>iv r.2) (fun _=>rfl) (i:=ds.length) aa
     rw [dG,←gv,←lH] at u3
     dsimp only [cR] at u3
     by_cases uo:m=0
     ·subst uo
      refine wk ?_
      refine ⟨sB,(p+n,rn,out++[13,10],⟨aD r7.a 1 r7.cap 2,r7.len - 1,r7.cap - 1⟩,ds++[(1,0)],dv),sB,⟨by dsimp only;omega,by dsimp only;exact kM,?_,by dsimp only;rw [List.length_append];simp only [List.length_cons,List.length_nil];omega,⟨by dsimp only;omega,by dsimp only;omega,fun hne=>?_⟩,fun r hr=>lJ r (by simp [hr]),?_⟩,by dsimp only;omega⟩
      ·intro r hr
       dsimp only at hr ⊢
       rw [hX] at hr
       cases hr
       rw [hu2,DI]
       exact iN out [13,10] _
      ·have hpos:=List.length_pos_iff.2 hne
       dsimp only at hpos ⊢
       rw [DX B8 aa,List.length_append,List.length_singleton,gv,lH,show aI rc.a+ds.length*2+1*2=aI rc.a+(ds.length+1)*2 by omega]
      ·dsimp only
       rw [List.append_assoc]
       exact H.sx
     ·refine wk ?_
      refine ⟨sB,(p+n,rn,out++[13,10],r7,ds,(1,m)::dv),sB,⟨by dsimp only;omega,by dsimp only;exact kM,?_,by dsimp only;rw [List.length_append];simp only [List.length_cons,List.length_nil];omega,⟨by simp only [List.length_cons];omega,by dsimp only;omega,fun _=>hat⟩,fun r hr=>?_,H.sx⟩,by dsimp only;omega⟩
      ·intro r hr
       dsimp only at hr ⊢
       rw [hX] at hr
       cases hr
       rw [hu2]
       exact iN out [13,10] _
      ·rcases List.mem_cons.1 hr with rfl|hr
       ·exact ⟨dH,by dsimp only;omega,by dsimp only;omega⟩
       ·exact lJ r (by simp [hr])
    ·refine wk ?_
     refine H.nA ?_;clear H;intro w bq H
     refine wk ?_
     refine Rel.Ad (s:=r6) (x:=⟨some ⟨bq,0,none⟩,1,1⟩) (xs:=out.flatMap cb) (ys:=[rv 13]) ad rfl rfl rfl rfl rfl ag H (H.qW).cells rfl (by simp [Value.oneCell']) (by show (r6.len+1)*4≤_;omega) (by dsimp only;omega) ?_
     clear H
     intro rn w H _
     rw [show out.flatMap cb++[rv 13]=(out++[13]).flatMap cb by rw [List.flatMap_append];rfl] at H
     have S2:=H.dO (i:=3) rfl (fun _=>rfl) ag
     obtain ⟨_,_,u2⟩:=S2.dW (g:=fun r:aR=>iv r.1) (g':=fun r:aR=>iv r.2) (fun _=>rfl) (i:=ds.length) aa
     rw [dG,←gv,←lH] at u2
     dsimp only [cR] at u2
     refine wk ?_
     rw [show (((m+1:Nat):Int) - 1)=((m:Nat):Int) by omega]
     refine Rel.qv (i:=3) H rfl (ds.length*2+1) aa gv (by show aI r7.a+0*2+1=_;omega) ?_
     clear H
     intro w H
     simp only [List.set_cons_succ,List.set_cons_zero] at H
     rw [DJ] at H
     have S3:=H.dO (i:=3) rfl (fun _=>rfl) ag
     have HT:(aC (ds++(2,m)::dv)).length=ds.length+(dv.length+1):=by simp [aC]
     obtain ⟨_,_,u3⟩:=S3.dW (g:=fun r:aR=>iv r.1) (g':=fun r:aR=>iv r.2) (fun _=>rfl) (i:=ds.length) aa
     rw [dG,←gv,←lH] at u3
     dsimp only [cR] at u3
     by_cases uo:m=0
     ·subst uo
      refine wk ?_
      refine ⟨sB,(p+n,rn,out++[13],⟨aD r7.a 1 r7.cap 2,r7.len - 1,r7.cap - 1⟩,ds++[(2,0)],dv),sB,⟨by dsimp only;omega,by dsimp only;exact kM,?_,by dsimp only;rw [List.length_append];simp only [List.length_cons,List.length_nil];omega,⟨by dsimp only;omega,by dsimp only;omega,fun hne=>?_⟩,fun r hr=>lJ r (by simp [hr]),?_⟩,by dsimp only;omega⟩
      ·intro r hr
       dsimp only at hr ⊢
       rw [hX] at hr
       cases hr
       rw [hu2,DI]
       exact iN out [13] _
      ·have hpos:=List.length_pos_iff.2 hne
       dsimp only at hpos ⊢
       rw [DX B8 aa,List.length_append,List.length_singleton,gv,lH,show aI rc.a+ds.length*2+1*2=aI rc.a+(ds.length+1)*2 by omega]
      ·dsimp only
       rw [List.append_assoc]
       exact H.sx
     ·refine wk ?_
      refine ⟨sB,(p+n,rn,out++[13],r7,ds,(2,m)::dv),sB,⟨by dsimp only;omega,by dsimp only;exact kM,?_,by dsimp only;rw [List.length_append];simp only [List.length_cons,List.length_nil];omega,⟨by simp only [List.length_cons];omega,by dsimp only;omega,fun _=>hat⟩,fun r hr=>?_,H.sx⟩,by dsimp only;omega⟩
      ·intro r hr
       dsimp only at hr ⊢
       rw [hX] at hr
       cases hr
       rw [hu2]
       exact iN out [13] _
      ·rcases List.mem_cons.1 hr with rfl|hr
       ·exact ⟨dH,by dsimp only;omega,by dsimp only;omega⟩
       ·exact lJ r (by simp [hr])
  ·have nX:¬p<t.length:=hlt
   have hu2:=hu [] (by rw [List.drop_of_length_le aa];rfl)
   cases rs' with
   | nil =>
    rw [show dA [] (bP [])=some [] from rfl] at hu2
    simp only [Option.map_some,List.append_nil] at hu2
    rw [hu2]
    simp only [List.length_nil] at mz
    have H0:Rel W V [.row r6 21 1 (out.flatMap cb)] V w:=H.sx
    clear H
    obtain ⟨V3,ar,H,hr⟩:=Rel.aJ H0 (fun _=>rfl) ag
    clear H0
    refine wk ?_
    exact ⟨V3,r6,ar,H.sx,by rw [decide_eq_true aa],hr⟩
   | cons x dv =>
    obtain ⟨k,m⟩:=x
    obtain ⟨dH,uq,hm2⟩:=lJ (k,m) ae
    dsimp only at dH uq hm2
    obtain ⟨m,rfl⟩:∃j,m=j+1:=⟨m - 1,aa⟩
    rw [Kn,show dA [] (k::bP ((k,m)::dv))=none from rfl,Option.map_none] at hu2
    rw [hu2]
    simp only [List.length_cons] at mz
    refine wk ?_
    exact ⟨V,r6,Sub.refl _,H.sx,by rw [decide_eq_false aa]⟩
end
theorem ES {x:Nat} (h:x<2147483648):aV .and .i64 (x:Int) 1023=((x%1024:Nat):Int):=by
 have e:aV .and .i64 (x:Int) 1023=IntKind.i64.wrap (((BitVec.ofInt 64 (x:Int)) &&& (BitVec.ofInt 64 (1023:Int))).toNat:Int):=rfl
 rw [e,BitVec.toNat_and,lQ (w:=64) aa,show (BitVec.ofInt 64 (1023:Int)).toNat=2 ^ 10 - 1 by decide,Nat.and_two_pow_sub_one_eq_mod]
 exact L7 aa
theorem Kx {n:Nat}:((n:Int) / 2 ^ min (Int.toNat 10) IntKind.i64.bits)=((n / 1024:Nat):Int):=rfl
structure Mg (W V:World) (o:Option (List UInt8)) (v:Value) (w':World):Prop where
 ex:∃(V':World) (r:Sl),Sub V V'∧Rel W V [] V' w'∧(match o with
  | none=>v=.tuple #[.slice none 0 0,.bool false]
  | some o=>v=.tuple #[r.v,.bool true]∧ao V' r o)
section
variable {w0 V0 V w:World} {own:List ak}
theorem qS {b:Nat} {r:Sl} {xs:List UInt8} (H:Rel w0 V0 (.row r 5 1 (xs.flatMap ay)::.al b [r.v] 22::own) V w) (hl:xs.length≤1000000000) {sp:Sl} {hs:List Sl} {ll:List (List UInt8)} (h1:aw cH V sp hs) (h2:Pw lq V hs ll) (h3:ll.length≤1000000) (h4:ll.flatten.length≤1000000) :
  aj Tryz.prog 206 [sp.v,.pointer (some ⟨b,0,none⟩)].toArray w fun _ w'=>∃r':Sl,Rel w0 V0 (.row r' 5 1 ((xs++ll.flatten).flatMap ay)::.al b [r'.v] 22::own) V w':=by
 refine eV Tryz.func206 7 [0,1] ?_
 refine wk ?_
 (first|refine az (id:=0) ad mixed [2] [0,1,2,3,4] ab ?_);intro w aG;replace H:=Rel.ext H aG.ext
 refine wk ?_
 refine (tt H.data h1 h2 h3 aa).use ?_
 rintro v w ⟨r2,rfl,K⟩
 (replace H:=Rel.call H K)
 simp only [List.cons_append,List.nil_append] at H
 refine wk ?_
 refine Rel.cQ (s:=r) (x:=r2) (xs:=xs) (ys:=ll.flatten) H (i:=0) rfl aa ?_
 clear H
 intro rn w H
 simp only [List.set_cons_zero] at H
 refine H.wg ?_;clear H;intro w H
 exact ⟨rn,H⟩
end
section
variable {V W:World}
theorem Lo (l:List Nat) (c:Nat):List.flatMap aM (l++[c])=List.flatMap aM l++aM c:=by rw [List.flatMap_append,List.flatMap_singleton]
theorem zx (big:Bool) (l:List Nat) (c:Nat):((l++[c]).flatMap cP).flatMap (bz big)=(l.flatMap cP).flatMap (bz big)++(cP c).flatMap (bz big):=by rw [List.flatMap_append,List.flatMap_singleton,List.flatMap_append]
theorem zy (big:Bool) (cs:List Nat) (k:Nat):(((cs.take k).flatMap cP).flatMap (bz big)).length≤4*k:=by
 have:∀l:List Nat,((l.flatMap cP).flatMap (bz big)).length≤4*l.length:=fun l=>by
  induction l with
  | nil=>exact Nat.le_refl _
  | cons c l ih =>
   have hu:((cP c).flatMap (bz big)).length≤4:=by
    unfold cP
    split<;>simp [np]
   rw [List.flatMap_cons,List.flatMap_append,List.length_append,List.length_cons]
   omega
 have:=this (cs.take k)
 rw [List.length_take] at this
 omega
theorem Ei (cs:List Nat) (k:Nat):((cs.take k).flatMap aM).length≤4*k:=by
 have:∀l:List Nat,(l.flatMap aM).length≤4*l.length:=fun l=>by
  induction l with
  | nil=>exact Nat.le_refl _
  | cons c l ih =>
   have:=kv c
   rw [List.flatMap_cons,List.length_append,List.length_cons,qA]
   omega
 have:=this (cs.take k)
 rw [List.length_take] at this
 omega
theorem OU (hV:Sub V W) {s:Sl} {cs:List Nat} (hs:aw cb V s cs) (hl:cs.length≤10000000) (hc:∀c∈cs,bT c) {e:Nat} (he:e<5):aj Tryz.prog 128 [s.v,iv (e:Int)].toArray W (Mg W V (gL e cs)):=by
 have H:=Rel.start hV
 have hlen:=hs.len
 have BC:e=0∨e=1∨e=2∨e=3∨e=4:=aa
 refine eV Tryz.func128 87 [0,1,4,5,6,7,8,10,11,15,16,20,28,29,30,31,41,48,56,66] ?_
 rcases BC with rfl|rfl|rfl|rfl|rfl
 ·refine wk ?_
  refine H.nA ?_;clear H;intro w b6 H
  replace H:=H.bw 5 1
  have H0:Rel W V [.row ⟨none,0,0⟩ 5 1 (([]:List UInt8).flatMap ay),.al b6 [(⟨none,0,0⟩:Sl).v] 22] V w:=H
  clear H
  have H:=H0
  clear H0
  rw [show gL 0 cs=some ([]++cs.flatMap aM) from rfl]
  refine wk ?_
  refine aK (S:=Nat×Sl) ad [0,1,6,7,8,15,16,20,28,29] (fun k=>[(30,iv k.1)]) (fun k w'=>k.1≤cs.length∧Rel W V [.row k.2 5 1 (([]++(cs.take k.1).flatMap aM).flatMap ay),.al b6 [k.2.v] 22] V w') (fun k _=>cs.length - k.1) (0,⟨none,0,0⟩) ?_
  conv=>whnf
  refine ⟨sB,⟨aa,by rw [List.take_zero,List.flatMap_nil,List.append_nil];exact H⟩,?_⟩
  clear H
  rintro ⟨k,r⟩ w ⟨hk,H⟩
  dsimp only at hk H ⊢
  have BX:=Ei cs k
  by_cases hlt:k<cs.length
  ·obtain ⟨p0,c0⟩:=hs.aP (g:=rv) (fun _=>rfl) hlt
   refine wk ?_
   refine (th (c:=cs[k]) H (hc _ (List.getElem_mem hlt)) (by rw [List.length_append];simp only [List.length_cons,List.length_nil];omega)).use ?_
   clear H
   rintro v w ⟨rn,rfl,H⟩
   refine H.wg ?_;clear H;intro w H
   refine ⟨sB,(k+1,rn),sB,⟨by dsimp only;omega,?_⟩,by dsimp only;omega⟩
   dsimp only
   rw [List.take_succ_eq_append_getElem hlt,Lo,←List.append_assoc]
   exact H.sx
  ·rw [List.take_of_length_le aa] at H
   obtain ⟨V2,hV2,H,hr⟩:=Rel.aJ H (fun _=>rfl) ag
   refine wk ?_
   exact ⟨V2,r,hV2,H.sx,rfl,hr⟩
 ·refine wk ?_
  refine H.nA ?_;clear H;intro w b6 H
  replace H:=H.bw 5 1
  refine wk ?_
  refine (th (c:=65279) (xs:=[]) H ag ae).use ?_
  clear H
  rintro v w ⟨rm,rfl,H⟩
  rw [List.nil_append,show aM 65279=iO by decide] at H
  rw [show gL 1 cs=some (iO++cs.flatMap aM) from rfl]
  refine H.wg ?_;clear H;intro w H
  refine aK (S:=Nat×Sl) ad [0,1,6,7,8,15,16,20,28,29] (fun k=>[(30,iv k.1)]) (fun k w'=>k.1≤cs.length∧Rel W V [.row k.2 5 1 ((iO++(cs.take k.1).flatMap aM).flatMap ay),.al b6 [k.2.v] 22] V w') (fun k _=>cs.length - k.1) (0,rm) ?_
  conv=>whnf
  refine ⟨sB,⟨aa,by rw [List.take_zero,List.flatMap_nil,List.append_nil];exact H⟩,?_⟩
  clear H
  rintro ⟨k,r⟩ w ⟨hk,H⟩
  dsimp only at hk H ⊢
  have BX:=Ei cs k
  by_cases hlt:k<cs.length
  ·obtain ⟨p0,c0⟩:=hs.aP (g:=rv) (fun _=>rfl) hlt
   refine wk ?_
   refine (th (c:=cs[k]) H (hc _ (List.getElem_mem hlt)) (by rw [List.length_append];simp only [List.length_cons,List.length_nil];omega)).use ?_
   clear H
   rintro v w ⟨rn,rfl,H⟩
   refine H.wg ?_;clear H;intro w H
   refine ⟨sB,(k+1,rn),sB,⟨by dsimp only;omega,?_⟩,by dsimp only;omega⟩
   dsimp only
   rw [List.take_succ_eq_append_getElem hlt,Lo,←List.append_assoc]
   exact H.sx
  ·rw [List.take_of_length_le aa] at H
   obtain ⟨V2,hV2,H,hr⟩:=Rel.aJ H (fun _=>rfl) ag
   refine wk ?_
   exact ⟨V2,r,hV2,H.sx,rfl,hr⟩
 ·have em:bz true 65279=[254,255]:=ag
  rw [show gL 2 cs=some ([254,255]++(cs.flatMap cP).flatMap (bz true)) from rfl]
  refine wk ?_
  refine H.nA ?_;clear H;intro w b6 H
  replace H:=H.bw 5 1
  refine wk ?_
  refine (oQ H.data (u:=65279) ag true).use ?_
  rintro v w ⟨V1,r1,hV1,K,rfl,hr1⟩
  (replace H:=Rel.call H K)
  simp only [List.nil_append] at H
  refine wk ?_
  refine H.nA ?_;clear H;intro w bs H
  obtain ⟨V2,hV2,H,mC⟩:=H.bJ
  have j8:aw cH V2 ⟨some ⟨bs,0,none⟩,1,1⟩ [r1]:=⟨rfl,Nat.le_refl _,mC.cells⟩
  refine wk ?_
  refine (qS (xs:=[]) H ae j8 (Pw.nil.snoc (hr1.up hV2)) (ll:=[bz true 65279]) ae (by simp [np])).use ?_
  clear H
  rintro v w ⟨rm,H⟩
  rw [List.nil_append,show [bz true 65279].flatten=[254,255] by rw [em];rfl] at H
  have mA:=hV1.trans hV2
  refine wk ?_
  refine aK (S:=Nat×Sl) ad [0,1,6,7,8,15,16,20,28,29] (fun k=>[(30,iv k.1)]) (fun k w'=>k.1≤cs.length∧∃V3,Sub V V3∧Rel W V [.row k.2 5 1 (([254,255]++((cs.take k.1).flatMap cP).flatMap (bz true)).flatMap ay),.al b6 [k.2.v] 22] V3 w') (fun k _=>cs.length - k.1) (0,rm) ?_
  conv=>whnf
  refine ⟨sB,⟨aa,V2,mA,by rw [List.take_zero,List.flatMap_nil,List.flatMap_nil,List.append_nil];exact H⟩,?_⟩
  clear H
  rintro ⟨k,r⟩ w ⟨hk,V3,ar,H⟩
  dsimp only at hk H ⊢
  have BX:=zy true cs k
  by_cases hlt:k<cs.length
  ·obtain ⟨p0,c0⟩:=(hs.up ar).aP (g:=rv) (fun _=>rfl) hlt
   have dZ:=hc _ (List.getElem_mem hlt)
   have hcl:=uK dZ
   have hxl:([254,255]++((cs.take k).flatMap cP).flatMap (bz true)).length≤1000000000:=by rw [List.length_append];simp only [List.length_cons,List.length_nil];omega
   obtain ⟨c,pD⟩:∃c,c=cs[k]:=⟨_,rfl⟩
   rw [←pD] at c0 dZ hcl
   obtain ⟨z,hz⟩:∃z:Int,z=(c:Int):=⟨_,rfl⟩
   change _=some (Value.int .i32 (c:Int)) at c0
   rw [←hz] at c0
   by_cases h16:c<65536
   ·refine wk ?_
    rw [hz]
    refine (oQ H.data h16 true).use ?_
    rintro v w ⟨V4,r4,av,K,rfl,hr4⟩
    (replace H:=Rel.call H K)
    simp only [List.nil_append] at H
    refine wk ?_
    refine H.nA ?_;clear H;intro w oY H
    obtain ⟨V5,aF,H,pC⟩:=H.bJ
    have pX:aw cH V5 ⟨some ⟨oY,0,none⟩,1,1⟩ [r4]:=⟨rfl,Nat.le_refl _,pC.cells⟩
    refine wk ?_
    refine (qS H hxl pX (Pw.nil.snoc (hr4.up aF)) (ll:=[bz true c]) ae (by simp [np])).use ?_
    clear H
    rintro v w ⟨rn,H⟩
    have pf:[bz true c].flatten=(cP c).flatMap (bz true):=by unfold cP;rw [if_pos h16];rfl
    rw [pf,List.append_assoc,←zx,pD,←List.take_succ_eq_append_getElem hlt] at H
    refine wk ?_
    exact ⟨sB,(k+1,rn),sB,⟨by dsimp only;omega,V5,(ar.trans av).trans aF,H.sx⟩,by dsimp only;omega⟩
   ·obtain ⟨m,hm⟩:∃m,m=c - 65536:=⟨_,rfl⟩
    refine wk ?_
    rw [show z - 65536=(m:Int) by omega]
    refine wk ?_
    rw [Kx]
    refine wk ?_
    rw [show (55296:Int)+((m / 1024:Nat):Int)=((55296+m / 1024:Nat):Int) by omega]
    refine (oQ H.data aa true).use ?_
    rintro v w ⟨V4,r4,av,K,rfl,hr4⟩
    (replace H:=Rel.call H K)
    simp only [List.nil_append] at H
    refine wk ?_
    rw [ES aa]
    refine wk ?_
    rw [show (56320:Int)+((m%1024:Nat):Int)=((56320+m%1024:Nat):Int) by omega]
    refine (oQ H.data aa true).use ?_
    rintro v w ⟨V5,r5,aF,K,rfl,j7⟩
    (replace H:=Rel.call H K)
    simp only [List.nil_append] at H
    refine wk ?_
    refine H.nA ?_;clear H;intro w oY H
    obtain ⟨V6,bL,H,pC⟩:=H.bJ
    have pX:aw cH V6 ⟨some ⟨oY,0,none⟩,2,2⟩ [r4,r5]:=⟨rfl,Nat.le_refl _,pC.cells⟩
    refine wk ?_
    refine (qS H hxl pX ((Pw.nil.snoc ((hr4.up aF).up bL)).snoc (j7.up bL)) (ll:=[bz true (55296+m / 1024),bz true (56320+m%1024)]) ae (by simp [np])).use ?_
    clear H
    rintro v w ⟨rn,H⟩
    have pf:[bz true (55296+m / 1024),bz true (56320+m%1024)].flatten=(cP c).flatMap (bz true):=by unfold cP;rw [if_neg h16,←hm];rfl
    rw [pf,List.append_assoc,←zx,pD,←List.take_succ_eq_append_getElem hlt] at H
    refine wk ?_
    exact ⟨sB,(k+1,rn),sB,⟨by dsimp only;omega,V6,((ar.trans av).trans aF).trans bL,H.sx⟩,by dsimp only;omega⟩
  ·rw [List.take_of_length_le aa] at H
   obtain ⟨V4,av,H,hr⟩:=Rel.aJ H (fun _=>rfl) ag
   refine wk ?_
   exact ⟨V4,r,ar.trans av,H.sx,rfl,hr⟩
 ·have em:bz false 65279=[255,254]:=ag
  rw [show gL 3 cs=some ([255,254]++(cs.flatMap cP).flatMap (bz false)) from rfl]
  refine wk ?_
  refine H.nA ?_;clear H;intro w b6 H
  replace H:=H.bw 5 1
  refine wk ?_
  refine (oQ H.data (u:=65279) ag false).use ?_
  rintro v w ⟨V1,r1,hV1,K,rfl,hr1⟩
  (replace H:=Rel.call H K)
  simp only [List.nil_append] at H
  refine wk ?_
  refine H.nA ?_;clear H;intro w bs H
  obtain ⟨V2,hV2,H,mC⟩:=H.bJ
  have j8:aw cH V2 ⟨some ⟨bs,0,none⟩,1,1⟩ [r1]:=⟨rfl,Nat.le_refl _,mC.cells⟩
  refine wk ?_
  refine (qS (xs:=[]) H ae j8 (Pw.nil.snoc (hr1.up hV2)) (ll:=[bz false 65279]) ae (by simp [np])).use ?_
  clear H
  rintro v w ⟨rm,H⟩
  rw [List.nil_append,show [bz false 65279].flatten=[255,254] by rw [em];rfl] at H
  have mA:=hV1.trans hV2
  refine wk ?_
  refine aK (S:=Nat×Sl) ad [0,1,6,7,8,15,16,20,28,29] (fun k=>[(30,iv k.1)]) (fun k w'=>k.1≤cs.length∧∃V3,Sub V V3∧Rel W V [.row k.2 5 1 (([255,254]++((cs.take k.1).flatMap cP).flatMap (bz false)).flatMap ay),.al b6 [k.2.v] 22] V3 w') (fun k _=>cs.length - k.1) (0,rm) ?_
  conv=>whnf
  refine ⟨sB,⟨aa,V2,mA,by rw [List.take_zero,List.flatMap_nil,List.flatMap_nil,List.append_nil];exact H⟩,?_⟩
  clear H
  rintro ⟨k,r⟩ w ⟨hk,V3,ar,H⟩
  dsimp only at hk H ⊢
  have BX:=zy false cs k
  by_cases hlt:k<cs.length
  ·obtain ⟨p0,c0⟩:=(hs.up ar).aP (g:=rv) (fun _=>rfl) hlt
   have dZ:=hc _ (List.getElem_mem hlt)
   have hcl:=uK dZ
   have hxl:([255,254]++((cs.take k).flatMap cP).flatMap (bz false)).length≤1000000000:=by rw [List.length_append];simp only [List.length_cons,List.length_nil];omega
   obtain ⟨c,pD⟩:∃c,c=cs[k]:=⟨_,rfl⟩
   rw [←pD] at c0 dZ hcl
   obtain ⟨z,hz⟩:∃z:Int,z=(c:Int):=⟨_,rfl⟩
   change _=some (Value.int .i32 (c:Int)) at c0
   rw [←hz] at c0
   by_cases h16:c<65536
   ·refine wk ?_
    rw [hz]
    refine (oQ H.data h16 false).use ?_
    rintro v w ⟨V4,r4,av,K,rfl,hr4⟩
    (replace H:=Rel.call H K)
    simp only [List.nil_append] at H
    refine wk ?_
    refine H.nA ?_;clear H;intro w oY H
    obtain ⟨V5,aF,H,pC⟩:=H.bJ
    have pX:aw cH V5 ⟨some ⟨oY,0,none⟩,1,1⟩ [r4]:=⟨rfl,Nat.le_refl _,pC.cells⟩
    refine wk ?_
    refine (qS H hxl pX (Pw.nil.snoc (hr4.up aF)) (ll:=[bz false c]) ae (by simp [np])).use ?_
    clear H
    rintro v w ⟨rn,H⟩
    have pf:[bz false c].flatten=(cP c).flatMap (bz false):=by unfold cP;rw [if_pos h16];rfl
    rw [pf,List.append_assoc,←zx,pD,←List.take_succ_eq_append_getElem hlt] at H
    refine wk ?_
    exact ⟨sB,(k+1,rn),sB,⟨by dsimp only;omega,V5,(ar.trans av).trans aF,H.sx⟩,by dsimp only;omega⟩
   ·obtain ⟨m,hm⟩:∃m,m=c - 65536:=⟨_,rfl⟩
    refine wk ?_
    rw [show z - 65536=(m:Int) by omega]
    refine wk ?_
    rw [Kx]
    refine wk ?_
    rw [show (55296:Int)+((m / 1024:Nat):Int)=((55296+m / 1024:Nat):Int) by omega]
    refine (oQ H.data aa false).use ?_
    rintro v w ⟨V4,r4,av,K,rfl,hr4⟩
    (replace H:=Rel.call H K)
    simp only [List.nil_append] at H
    refine wk ?_
    rw [ES aa]
    refine wk ?_
    rw [show (56320:Int)+((m%1024:Nat):Int)=((56320+m%1024:Nat):Int) by omega]
    refine (oQ H.data aa false).use ?_
    rintro v w ⟨V5,r5,aF,K,rfl,j7⟩
    (replace H:=Rel.call H K)
    simp only [List.nil_append] at H
    refine wk ?_
    refine H.nA ?_;clear H;intro w oY H
    obtain ⟨V6,bL,H,pC⟩:=H.bJ
    have pX:aw cH V6 ⟨some ⟨oY,0,none⟩,2,2⟩ [r4,r5]:=⟨rfl,Nat.le_refl _,pC.cells⟩
    refine wk ?_
    refine (qS H hxl pX ((Pw.nil.snoc ((hr4.up aF).up bL)).snoc (j7.up bL)) (ll:=[bz false (55296+m / 1024),bz false (56320+m%1024)]) ae (by simp [np])).use ?_
    clear H
    rintro v w ⟨rn,H⟩
    have pf:[bz false (55296+m / 1024),bz false (56320+m%1024)].flatten=(cP c).flatMap (bz false):=by unfold cP;rw [if_neg h16,←hm];rfl
    rw [pf,List.append_assoc,←zx,pD,←List.take_succ_eq_append_getElem hlt] at H
    refine wk ?_
    exact ⟨sB,(k+1,rn),sB,⟨by dsimp only;omega,V6,((ar.trans av).trans aF).trans bL,H.sx⟩,by dsimp only;omega⟩
  ·rw [List.take_of_length_le aa] at H
   obtain ⟨V4,av,H,hr⟩:=Rel.aJ H (fun _=>rfl) ag
   refine wk ?_
   exact ⟨V4,r,ar.trans av,H.sx,rfl,hr⟩
 ·rw [show gL 4 cs=if ∀c∈cs,c<256 then some (cs.map UInt8.ofNat) else none from rfl]
  refine wk ?_
  refine H.nA ?_;clear H;intro w b6 H
  replace H:=H.bw 5 1
  refine wk ?_
  refine aK (S:=Nat×Sl) ad [0,1,6,7,8,15,16,20,28,29] (fun k=>[(30,iv k.1)]) (fun k w'=>k.1≤cs.length∧(∀c∈cs.take k.1,c<256)∧Rel W V [.row k.2 5 1 (((cs.take k.1).map UInt8.ofNat).flatMap ay),.al b6 [k.2.v] 22] V w') (fun k _=>cs.length - k.1) (0,⟨none,0,0⟩) ?_
  conv=>whnf
  refine ⟨sB,⟨aa,ae,H⟩,?_⟩
  clear H
  rintro ⟨k,r⟩ w ⟨hk,ha,H⟩
  dsimp only at hk ha H ⊢
  by_cases hlt:k<cs.length
  ·obtain ⟨p0,c0⟩:=hs.aP (g:=rv) (fun _=>rfl) hlt
   have dZ:=uK (hc _ (List.getElem_mem hlt))
   have iH:((cs.take k).map UInt8.ofNat).length=k:=by rw [List.length_map,List.length_take];omega
   by_cases YA:255<cs[k]
   ·rw [if_neg (fun h=>by have:=h _ (List.getElem_mem hlt);omega)]
    refine wk ?_
    exact ⟨V,⟨none,0,0⟩,Sub.refl _,H.sx,rfl⟩
   ·refine wk ?_
    refine H.nA ?_;clear H;intro w Yd H
    rw [vT (show cs[k]<256 by omega)] at H
    replace H:=H.cj (c':=ay (UInt8.ofNat cs[k])) (by simp only [ay,bv,bW (show cs[k]<256 by omega)])
    refine wk ?_
    refine Rel.dj (f:=ay) (l:=(cs.take k).map UInt8.ofNat) (x:=UInt8.ofNat cs[k]) ad rfl rfl rfl rfl rfl ag (fun _=>rfl) (List.all_eq_true.1 rfl) H (by show (((cs.take k).map UInt8.ofNat).length+1)*1≤_;omega) aa ?_
    clear H
    intro rn w H
    refine H.wg ?_;clear H;intro w H
    refine ⟨sB,(k+1,rn),sB,⟨by dsimp only;omega,fun c hc2=>?_,?_⟩,by dsimp only;omega⟩
    ·dsimp only at hc2
     rw [List.take_succ_eq_append_getElem hlt] at hc2
     rcases List.mem_append.1 hc2 with h|h
     ·exact ha c h
     ·rw [List.mem_singleton.1 h];omega
    ·dsimp only
     rw [List.take_succ_eq_append_getElem hlt,List.map_append]
     exact H.sx
  ·rw [List.take_of_length_le aa] at H ha
   rw [if_pos ha]
   obtain ⟨V2,hV2,H,hr⟩:=Rel.aJ H (fun _=>rfl) ag
   refine wk ?_
   exact ⟨V2,r,hV2,H.sx,rfl,hr⟩
end
end Go.Proofs.YtmoiobegbpkkbaaGreatDoor
