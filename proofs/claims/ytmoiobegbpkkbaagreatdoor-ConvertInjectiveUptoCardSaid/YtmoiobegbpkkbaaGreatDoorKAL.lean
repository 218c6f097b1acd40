import Derived.Test.YtmoiobegbpkkbaaGreatDoorKAK
import Derived.Test.YtmoiobegbpkkbaaGreatDoorRows
import Derived.WalkKit
import Derived.ProofKit
import Derived.OpenShut
import Derived.JoinedCond
namespace Go.Proofs.YtmoiobegbpkkbaaGreatDoor
open Go Go.RowKit
set_option maxRecDepth 100000
set_option maxHeartbeats 8000000
abbrev sV (V:World) (x:Sl) (r:List (List UInt8)):Prop:=RL cH lq V x r
theorem kD:∀(V V':World) (x:Sl) (y:List (List UInt8)),Sub V V'→sV V x y→sV V' x y:=fun V V' x y k ⟨xs,h1,h2⟩=>⟨xs,h1.up k,h2.up (fun _ _ _ _ k h=>h.up k) k⟩
def mj (V:World) (s:Sl) (T:kB):Prop:=RL cH sV V s T
theorem mj.len {V:World} {s:Sl} {T:kB} (h:mj V s T):s.len=T.length:=by
 obtain ⟨xs,h1,h2⟩:=h
 rw [h1.len,h2.len]
theorem mj.nil (V:World):mj V ⟨none,0,0⟩ []:=⟨[],aw.nil _ _,Pw.nil⟩
abbrev gr (n:Nat) (k:Bool) (rs qs:Sl) (o:Bool):List Value:=[iv (n:Nat),.bool k,rs.v,qs.v,.bool o]
structure Mr (W V:World) (n:Nat) (k:Bool) (x:Option (List (List aO)×Bool)) (v:Value) (w':World):Prop where
 ex:∃(V':World) (m:Nat) (j:Bool) (rs qs:Sl) (o g:Bool),Sub V V'∧Rel W V [] V' w'∧v=.tuple #[.agg (gr m j rs qs o).toArray,.bool g]∧(match x with
  | none=>g=false
  | some (R,op)=>g=true∧m=n∧j=k∧o=op∧mj V' rs (gi R)∧aw ct V' qs (nz (qn (aE n) 0 R.flatten)))
theorem sJ (R:List (List aO)) (r:List aO):gi (R++[r])=gi R++[r.map Prod.fst]:=by simp [gi]
theorem j1 {α:Type} (R:List (List α)) (r:List α):(R++[r]).flatten=R.flatten++r:=ae
theorem DZ (k:Bool):1≤(aZ k).length∧(aZ k).length≤2:=by cases k<;>decide
theorem BI {k:Bool} {t:List UInt8} (h:t.head?=some 34) (h2:t.take (aZ k).length=aZ k):False:=by
 cases t with
 | nil=>cases h
 | cons c t =>
  cases h
  cases k
  ·exact absurd (congrArg List.head? h2) (by simp [aZ])
  ·exact absurd (congrArg List.head? h2) (by simp [aZ])
theorem DP {n:Nat} (hn:n<3):([44,59,9]:List UInt8)[((n:Nat):Int).toNat]?=some (aE n):=by
 match n,hn with
 | 0,_=>rfl
 | 1,_=>rfl
 | 2,_=>rfl
theorem Nt {s:UInt8} {l:List UInt8} {c:aO} {t:List UInt8} (h:lA s l=some (c,t)):c.1.length+t.length≤l.length:=by
 unfold lA at h
 split at h
 ·rename_i hh
  cases l with
  | nil=>cases hh
  | cons d l =>
   split at h
   ·cases h
   ·rename_i p hp
    cases h
    have:=congrArg List.length (vj (x:=p.1) (t:=p.2) hp).1
    rw [List.length_append,List.length_cons,Gy,List.tail_cons] at this
    rw [List.length_cons]
    dsimp only
    omega
 ·cases h
  have:=congrArg List.length (vI s l).1
  rw [List.length_append] at this
  dsimp only
  omega
section
variable {V W:World}
theorem J7 (hV:Sub V W) (hT:kA V) (hM:jO V) {n:Nat} (hn:n<3) (k:Bool) {s:Sl} {l:List UInt8} (hs:ao V s l) (hl:l.length≤1000):aj Tryz.prog 232 [s.v,.agg (rS n k).toArray].toArray W (Mr W V n k (eh (aE n) (aZ k) l)):=by
 have H:=Rel.start hV
 have hlen:=hs.len
 obtain ⟨G4,G6,hcut,uB⟩:=DQ hn
 refine eV Tryz.func232 109 [0,1,3,4,5,6,7,8,9,10,11,12,13,14,26,34,42,60,78,98] ?_
 refine wk ?_
 refine H.nA ?_;clear H;intro w b3 H
 refine wk ?_
 refine H.nA ?_;clear H;intro w b4 H
 refine wk ?_
 refine DM ad ?_
 refine wk ?_
 refine H.nA ?_;clear H;intro w Ag H
 refine wk ?_
 refine H.nA ?_;clear H;intro w b7 H
 refine H.wh ?_;clear H;intro w H
 replace H:=(H.bw 3 1).bw 96 1
 have H0:Rel W V [.al Ag [iv (n:Nat),.bool k,s.v] 336,.row ⟨none,0,0⟩ 96 1 [],.row ⟨none,0,0⟩ 3 1 [],.al b7 (gr n k ⟨none,0,0⟩ ⟨none,0,0⟩ false) 187,.al b4 (gr 0 false ⟨none,0,0⟩ ⟨none,0,0⟩ false) 187,.al b3 (rS n k) 185] V w:=H.pick
 clear H
 have H:=H0
 clear H0
 refine aK (S:=Sl×List UInt8×List (List aO)×Sl×List Sl×Sl) ad [0,1,3,4,6,7] (fun z=>[(8,iv (z.2.2.1.flatten.length:Nat))]) (fun z w'=>eh (aE n) (aZ k) l=mW (aE n) (aZ k) z.2.2.1 z.2.1∧z.2.2.1.length+z.2.1.length≤l.length∧z.2.2.1.flatten.length+z.2.1.length≤l.length∧∃V2,Sub V V2∧ao V2 z.1 z.2.1∧Pw sV V2 z.2.2.2.2.1 (gi z.2.2.1)∧Rel W V [.al Ag [iv (n:Nat),.bool k,z.1.v] 336,.row z.2.2.2.1 96 1 (z.2.2.2.2.1.flatMap cH),.row z.2.2.2.2.2 3 1 ((nz (qn (aE n) 0 z.2.2.1.flatten)).flatMap ct),.al b7 (gr n k z.2.2.2.1 z.2.2.2.2.2 false) 187,.al b4 (gr 0 false ⟨none,0,0⟩ ⟨none,0,0⟩ false) 187,.al b3 (rS n k) 185] V2 w') (fun z _=>z.2.1.length) (s,l,[],⟨none,0,0⟩,[],⟨none,0,0⟩) ?_
 conv=>whnf
 refine ⟨sB,⟨rfl,ae,ae,V,Sub.refl _,hs,Pw.nil,H⟩,?_⟩
 clear H
 rintro ⟨q,u,R,rs,hh,qs⟩ w ⟨aL,mz,Hn,V2,hV2,hq,hP,H⟩
 dsimp only at aL mz Hn hq hP H ⊢
 have nY:=hq.len
 have HR:=hP.len
 rw [List.length_map] at HR
 by_cases hu:u.length=0
 ·have kS:u=[]:=List.eq_nil_of_length_eq_zero hu
  have e:eh (aE n) (aZ k) l=some (R,false):=by rw [aL,kS];rfl
  rw [e]
  have H1:=H.fX
  clear H
  obtain ⟨V3,ar,H,aS⟩:=Rel.aJ H1 (fun _=>rfl) ag
  have H2:=H.fX
  clear H H1
  obtain ⟨V4,av,H,ga⟩:=Rel.aJ H2 (fun _=>rfl) ag
  clear H2
  refine H.wg ?_;clear H;intro w H
  exact ⟨V4,n,k,rs,qs,false,true,(hV2.trans ar).trans av,H.sx,rfl,rfl,rfl,rfl,rfl,⟨hh,aS.up av,hP.up kD (ar.trans av)⟩,ga⟩
 refine wk ?_
 replace H:=H.bw 22 1
 have H0:=H.fX
 clear H
 have H:=H0
 clear H0
 have e:eh (aE n) (aZ k) l=gd (aE n) (aZ k) R [] u:=by rw [aL,mW,if_neg (fun h=>hu (by rw [h];rfl))]
 clear aL
 refine aK (S:=Sl×List UInt8×List aO×Sl×List Sl×Sl) ad [0,1,3,4,6,7,26] (fun z=>[(8,iv ((R.flatten.length+z.2.2.1.length:Nat):Int)),(9,z.2.2.2.1.v)]) (fun z w'=>eh (aE n) (aZ k) l=gd (aE n) (aZ k) R z.2.2.1 z.2.1∧z.2.1.length≤u.length∧R.flatten.length+z.2.2.1.length+z.2.1.length≤l.length∧∃V3,Sub V V3∧ao V3 z.1 z.2.1∧Pw sV V3 hh (gi R)∧Pw lq V3 z.2.2.2.2.1 (z.2.2.1.map Prod.fst)∧Rel W V [.al Ag [iv (n:Nat),.bool k,z.1.v] 336,.row z.2.2.2.1 22 1 (z.2.2.2.2.1.flatMap cH),.row rs 96 1 (hh.flatMap cH),.row z.2.2.2.2.2 3 1 ((nz (qn (aE n) 0 (R.flatten++z.2.2.1))).flatMap ct),.al b7 (gr n k rs z.2.2.2.2.2 false) 187,.al b4 (gr 0 false ⟨none,0,0⟩ ⟨none,0,0⟩ false) 187,.al b3 (rS n k) 185] V3 w') (fun z _=>z.2.1.length) (q,u,[],⟨none,0,0⟩,[],qs) ?_
 conv=>whnf
 refine ⟨sB,⟨e,Nat.le_refl _,by simpa using Hn,V2,hV2,hq,hP,Pw.nil,by rw [List.append_nil];exact H⟩,?_⟩
 clear H e hq hP hV2 nY V2
 rintro ⟨q,u2,r,cs,gs,qs⟩ w ⟨aL,mO,j3,V2,hV2,hq,hP,hG,H⟩
 dsimp only at aL mO j3 hq hP hG H ⊢
 refine wk ?_
 refine (Nv H (sH hT hV2) (hM.up hV2) hn hq aa).use ?_
 rintro v w ⟨V3,c,q2,f,g,ar,H2,rfl,hres⟩
 clear H
 have H:=H2
 clear H2
 have dm:=hV2.trans ar
 have BO:=hG.len
 rw [List.length_map] at BO
 cases hc:lA (aE n) u2 with
 | none =>
  rw [hc] at hres
  obtain rfl:=hres
  have e:eh (aE n) (aZ k) l=none:=by rw [aL,yW (by rw [J0,hc])]
  rw [e]
  refine H.wg ?_;clear H;intro w H
  exact ⟨V3,0,false,⟨none,0,0⟩,⟨none,0,0⟩,false,false,dm,H.sx,rfl,rfl⟩
 | some y =>
  obtain ⟨⟨x,f⟩,t⟩:=y
  rw [hc] at hres
  obtain ⟨rfl,rfl,mD,kQ⟩:=hres
  dsimp only at mD kQ ⊢
  have x7:=Nt hc
  dsimp only at x7
  have fu:jC (aE n) u2=if t.head?=some 34 then none else some ((x,f),t):=by rw [J0,hc]
  have dx:=JS (s:=aE n) (c:=(x,f)) (r:=R.flatten++r) (k:=0)
  rw [List.append_assoc,Nat.zero_add,List.length_append] at dx
  dsimp only at dx
  have dI:=JQ (s:=aE n) (r:=R.flatten++r) (k:=0)
  rw [List.length_append] at dI
  have hnl:(nz (qn (aE n) 0 (R.flatten++r))).length=(qn (aE n) 0 (R.flatten++r)).length:=List.length_map _
  have Bo:Pw lq V3 (gs++[c]) ((r++[(x,f)]).map Prod.fst):=by rw [List.map_append];exact (hG.up (fun _ _ _ _ k h=>h.up k) ar).snoc mD
  have hP2:=hP.up kD ar
  have Cc:=kQ.len
  cases f with
  | false =>
   rw [Bool.false_and,if_neg ag,List.append_nil] at dx
   rw [←dx] at H
   refine H.wg ?_;clear H;intro _ w H
   refine Rel.cy (f:=cH) (s:=cs) (l:=gs) (x:=c) ad rfl rfl rfl rfl rfl ag (fun _=>rfl) (by simp [Value.oneCell']) H (by show (gs.length+1)*24≤_;omega) aa ?_
   clear H
   intro eJ w H
   have kI:Pw lq V3 (gs++[c]) ((r++[(x,false)]).map Prod.fst):=Bo
   by_cases ht0:t.length=0
   ·have ht:t=[]:=List.eq_nil_of_length_eq_zero ht0
    have e:eh (aE n) (aZ k) l=some (R++[r++[(x,false)]],true):=by rw [aL,Dn (by rw [fu,ht];rfl)]
    rw [e]
    have H1:=H.fX
    clear H
    obtain ⟨V4,av,H,hcs⟩:=Rel.aJ H1 (fun _=>rfl) ag
    clear H1
    refine wk ?_
    refine H.nA ?_;clear H;intro w EW H
    refine wk ?_
    refine Rel.cy (f:=cH) (s:=rs) (l:=hh) (x:=eJ) ad rfl rfl rfl rfl rfl ag (fun _=>rfl) (by simp [Value.oneCell']) H (by show (hh.length+1)*24≤_;omega) aa ?_
    clear H
    intro dv w H
    refine H.wg ?_;clear H;intro _ _ w H
    have H1:=H.fX
    clear H
    obtain ⟨V5,aF,H,aS⟩:=Rel.aJ H1 (fun _=>rfl) ag
    have H2:=H.fX
    clear H H1
    obtain ⟨V6,bL,H,ga⟩:=Rel.aJ H2 (fun _=>rfl) ag
    refine ⟨V6,n,k,dv,qs,true,true,((dm.trans av).trans aF).trans bL,H.sx,rfl,rfl,rfl,rfl,rfl,⟨hh++[eJ],aS.up bL,?_⟩,?_⟩
    ·rw [sJ]
     exact (hP2.up kD ((av.trans aF).trans bL)).snoc ⟨gs++[c],hcs.up (aF.trans bL),kI.up (fun _ _ _ _ k h=>h.up k) ((av.trans aF).trans bL)⟩
    ·rw [j1]
     exact ga
   refine wk ?_
   (first|refine dV 15 [5] [0,1,2,3,4,5,6,7,8,9,10,11] H ?_|refine dV 18 [] [0,1,2,3,4,5,6,7,8,9] H ?_);clear H;intro w H
   refine wk ?_
   refine (AY H.data n k).use ?_
   rintro v w ⟨V4,er,av,K,rfl,ug⟩
   (replace H:=Rel.call H K)
   simp only [List.nil_append] at H
   refine wk ?_
   refine (tx H.data (kQ.up av) ug).use ?_
   rintro v w ⟨⟨vf,rfl,uw⟩,K⟩
   (replace H:=Rel.call H K)
   simp only [List.nil_append] at H
   have hel:=DZ k
   by_cases hpre:t.take (aZ k).length=aZ k
   ·rw [decide_eq_true hpre]
    have htl:=congrArg List.length hpre
    rw [List.length_take] at htl
    have dh:t.head?≠some 34:=fun h=>BI h hpre
    have e:eh (aE n) (aZ k) l=mW (aE n) (aZ k) (R++[r++[(x,false)]]) (t.drop (aZ k).length):=by rw [aL,Dp (lg k) (by rw [fu,if_neg dh]) hpre]
    have H1:=H.fX
    clear H
    obtain ⟨V5,aF,H,hcs⟩:=Rel.aJ H1 (fun _=>rfl) ag
    clear H1
    refine wk ?_
    refine H.nA ?_;clear H;intro w Ah H
    refine wk ?_
    refine Rel.cy (f:=cH) (s:=rs) (l:=hh) (x:=eJ) ad rfl rfl rfl rfl rfl ag (fun _=>rfl) (by simp [Value.oneCell']) H (by show (hh.length+1)*24≤_;omega) aa ?_
    clear H
    intro dv w H
    refine H.wg ?_;clear H;intro _ w H
    refine ⟨sB,(vf,t.drop (aZ k).length,R++[r++[(x,false)]],dv,hh++[eJ],qs),⟨?_,trivial⟩,⟨e,?_,?_,V5,(dm.trans av).trans aF,(uw hpre).up aF,?_,?_⟩,?_⟩
    ·show some (Value.int .i64 _)=some (.int .i64 _)
     congr 2
     simp only [j1,List.length_append,List.length_cons,List.length_nil]
     omega
    ·simp only [List.length_append,List.length_cons,List.length_nil,List.length_drop]
     omega
    ·simp only [j1,List.length_append,List.length_cons,List.length_nil,List.length_drop]
     omega
    ·rw [sJ]
     exact (hP2.up kD (av.trans aF)).snoc ⟨gs++[c],hcs,kI.up (fun _ _ _ _ k h=>h.up k) (av.trans aF)⟩
    ·dsimp only
     rw [j1]
     exact H
    ·simp only [List.length_drop]
     omega
   rw [decide_eq_false hpre]
   obtain ⟨d,t2,rfl⟩:∃d t2,t=d::t2:=by
    cases t with
    | nil=>exact absurd rfl ht0
    | cons d t2=>exact ⟨d,t2,rfl⟩
   rw [List.length_cons] at Cc x7
   obtain ⟨p1,c1⟩:=(kQ.up av).aP (g:=bv) (i:=0) (fun _=>rfl) ae
   change V4.cell? _=some (bv d) at c1
   have hgs:=DP hn
   by_cases hd:d=aE n
   ·subst hd
    have ud:aE n≠34:=(sD n).2.1
    have e:eh (aE n) (aZ k) l=gd (aE n) (aZ k) R (r++[(x,false)]) t2:=by rw [aL,Dq (lg k) (by rw [fu,if_neg (by rw [List.head?_cons];simpa using ud)]) hpre]
    have jt:=(oE (kQ.up av) (i:=1) ae).2
    rw [show List.drop 1 (aE n::t2)=t2 from rfl] at jt
    refine wk ?_
    (first|refine dV 15 [5] [0,1,2,3,4,5,6,7,8,9,10,11] H ?_|refine dV 18 [] [0,1,2,3,4,5,6,7,8,9] H ?_);clear H;intro w H
    refine H.wg ?_;clear H;intro w H
    refine ⟨sB,(⟨aD q2.a 1 q2.cap 1,q2.len - 1,q2.cap - 1⟩,t2,r++[(x,false)],eJ,gs++[c],qs),⟨?_,rfl,trivial⟩,⟨e,?_,?_,V4,dm.trans av,jt,hP2.up kD av,kI.up (fun _ _ _ _ k h=>h.up k) av,H⟩,?_⟩
    ·show some (Value.int .i64 _)=some (.int .i64 _)
     congr 2
     simp only [List.length_append,List.length_cons,List.length_nil]
     omega
    ·simp only
     omega
    ·simp only [List.length_append,List.length_cons,List.length_nil]
     omega
    ·simp only
     omega
   ·have BH:d.toNat≠(aE n).toNat:=fun h=>hd (UInt8.toNat_inj.1 h)
    have e:eh (aE n) (aZ k) l=none:=by
     rw [aL]
     by_cases dh:(d::t2).head?=some 34
     ·exact yW (by rw [fu,if_pos dh])
     ·exact Dr (by rw [fu,if_neg dh]) ae hpre (by rw [List.head?_cons];simpa using hd)
    rw [e]
    refine wk ?_
    (first|refine dV 15 [5] [0,1,2,3,4,5,6,7,8,9,10,11] H ?_|refine dV 18 [] [0,1,2,3,4,5,6,7,8,9] H ?_);clear H;intro w H
    refine H.wg ?_;clear H;intro w H
    exact ⟨V4,0,false,⟨none,0,0⟩,⟨none,0,0⟩,false,false,dm.trans av,H.sx,rfl,rfl⟩
  | true =>
   refine wk ?_
   refine (Th H.data (sH hT dm) (hM.up dm) hn k mD aa).use ?_
   rintro v w ⟨rfl,K⟩
   (replace H:=Rel.call H K)
   simp only [List.nil_append] at H
   cases hN:cO (aE n) x with
   | true =>
    rw [hN,Bool.not_true,Bool.and_false,if_neg ag,List.append_nil] at dx
    rw [←dx] at H
    refine H.wg ?_;clear H;intro _ w H
    refine Rel.cy (f:=cH) (s:=cs) (l:=gs) (x:=c) ad rfl rfl rfl rfl rfl ag (fun _=>rfl) (by simp [Value.oneCell']) H (by show (gs.length+1)*24≤_;omega) aa ?_
    clear H
    intro eJ w H
    have kI:Pw lq V3 (gs++[c]) ((r++[(x,true)]).map Prod.fst):=Bo
    by_cases ht0:t.length=0
    ·have ht:t=[]:=List.eq_nil_of_length_eq_zero ht0
     have e:eh (aE n) (aZ k) l=some (R++[r++[(x,true)]],true):=by rw [aL,Dn (by rw [fu,ht];rfl)]
     rw [e]
     have H1:=H.fX
     clear H
     obtain ⟨V4,av,H,hcs⟩:=Rel.aJ H1 (fun _=>rfl) ag
     clear H1
     refine wk ?_
     refine H.nA ?_;clear H;intro w EW H
     refine wk ?_
     refine Rel.cy (f:=cH) (s:=rs) (l:=hh) (x:=eJ) ad rfl rfl rfl rfl rfl ag (fun _=>rfl) (by simp [Value.oneCell']) H (by show (hh.length+1)*24≤_;omega) aa ?_
     clear H
     intro dv w H
     refine H.wg ?_;clear H;intro _ _ w H
     have H1:=H.fX
     clear H
     obtain ⟨V5,aF,H,aS⟩:=Rel.aJ H1 (fun _=>rfl) ag
     have H2:=H.fX
     clear H H1
     obtain ⟨V6,bL,H,ga⟩:=Rel.aJ H2 (fun _=>rfl) ag
     refine ⟨V6,n,k,dv,qs,true,true,((dm.trans av).trans aF).trans bL,H.sx,rfl,rfl,rfl,rfl,rfl,⟨hh++[eJ],aS.up bL,?_⟩,?_⟩
     ·rw [sJ]
      exact (hP2.up kD ((av.trans aF).trans bL)).snoc ⟨gs++[c],hcs.up (aF.trans bL),kI.up (fun _ _ _ _ k h=>h.up k) ((av.trans aF).trans bL)⟩
     ·rw [j1]
      exact ga
    refine wk ?_
    (first|refine dV 15 [5] [0,1,2,3,4,5,6,7,8,9,10,11] H ?_|refine dV 18 [] [0,1,2,3,4,5,6,7,8,9] H ?_);clear H;intro w H
    refine wk ?_
    refine (AY H.data n k).use ?_
    rintro v w ⟨V4,er,av,K,rfl,ug⟩
    (replace H:=Rel.call H K)
    simp only [List.nil_append] at H
    refine wk ?_
    refine (tx H.data (kQ.up av) ug).use ?_
    rintro v w ⟨⟨vf,rfl,uw⟩,K⟩
    (replace H:=Rel.call H K)
    simp only [List.nil_append] at H
    have hel:=DZ k
    by_cases hpre:t.take (aZ k).length=aZ k
    ·rw [decide_eq_true hpre]
     have htl:=congrArg List.length hpre
     rw [List.length_take] at htl
     have dh:t.head?≠some 34:=fun h=>BI h hpre
     have e:eh (aE n) (aZ k) l=mW (aE n) (aZ k) (R++[r++[(x,true)]]) (t.drop (aZ k).length):=by rw [aL,Dp (lg k) (by rw [fu,if_neg dh]) hpre]
     have H1:=H.fX
     clear H
     obtain ⟨V5,aF,H,hcs⟩:=Rel.aJ H1 (fun _=>rfl) ag
     clear H1
     refine wk ?_
     refine H.nA ?_;clear H;intro w Ah H
     refine wk ?_
     refine Rel.cy (f:=cH) (s:=rs) (l:=hh) (x:=eJ) ad rfl rfl rfl rfl rfl ag (fun _=>rfl) (by simp [Value.oneCell']) H (by show (hh.length+1)*24≤_;omega) aa ?_
     clear H
     intro dv w H
     refine H.wg ?_;clear H;intro _ w H
     refine ⟨sB,(vf,t.drop (aZ k).length,R++[r++[(x,true)]],dv,hh++[eJ],qs),⟨?_,trivial⟩,⟨e,?_,?_,V5,(dm.trans av).trans aF,(uw hpre).up aF,?_,?_⟩,?_⟩
     ·show some (Value.int .i64 _)=some (.int .i64 _)
      congr 2
      simp only [j1,List.length_append,List.length_cons,List.length_nil]
      omega
     ·simp only [List.length_append,List.length_cons,List.length_nil,List.length_drop]
      omega
     ·simp only [j1,List.length_append,List.length_cons,List.length_nil,List.length_drop]
      omega
     ·rw [sJ]
      exact (hP2.up kD (av.trans aF)).snoc ⟨gs++[c],hcs,kI.up (fun _ _ _ _ k h=>h.up k) (av.trans aF)⟩
     ·dsimp only
      rw [j1]
      exact H
     ·simp only [List.length_drop]
      omega
    rw [decide_eq_false hpre]
    obtain ⟨d,t2,rfl⟩:∃d t2,t=d::t2:=by
     cases t with
     | nil=>exact absurd rfl ht0
     | cons d t2=>exact ⟨d,t2,rfl⟩
    rw [List.length_cons] at Cc x7
    obtain ⟨p1,c1⟩:=(kQ.up av).aP (g:=bv) (i:=0) (fun _=>rfl) ae
    change V4.cell? _=some (bv d) at c1
    have hgs:=DP hn
    by_cases hd:d=aE n
    ·subst hd
     have ud:aE n≠34:=(sD n).2.1
     have e:eh (aE n) (aZ k) l=gd (aE n) (aZ k) R (r++[(x,true)]) t2:=by rw [aL,Dq (lg k) (by rw [fu,if_neg (by rw [List.head?_cons];simpa using ud)]) hpre]
     have jt:=(oE (kQ.up av) (i:=1) ae).2
     rw [show List.drop 1 (aE n::t2)=t2 from rfl] at jt
     refine wk ?_
     (first|refine dV 15 [5] [0,1,2,3,4,5,6,7,8,9,10,11] H ?_|refine dV 18 [] [0,1,2,3,4,5,6,7,8,9] H ?_);clear H;intro w H
     refine H.wg ?_;clear H;intro w H
     refine ⟨sB,(⟨aD q2.a 1 q2.cap 1,q2.len - 1,q2.cap - 1⟩,t2,r++[(x,true)],eJ,gs++[c],qs),⟨?_,rfl,trivial⟩,⟨e,?_,?_,V4,dm.trans av,jt,hP2.up kD av,kI.up (fun _ _ _ _ k h=>h.up k) av,H⟩,?_⟩
     ·show some (Value.int .i64 _)=some (.int .i64 _)
      congr 2
      simp only [List.length_append,List.length_cons,List.length_nil]
      omega
     ·simp only
      omega
     ·simp only [List.length_append,List.length_cons,List.length_nil]
      omega
     ·simp only
      omega
    ·have BH:d.toNat≠(aE n).toNat:=fun h=>hd (UInt8.toNat_inj.1 h)
     have e:eh (aE n) (aZ k) l=none:=by
      rw [aL]
      by_cases dh:(d::t2).head?=some 34
      ·exact yW (by rw [fu,if_pos dh])
      ·exact Dr (by rw [fu,if_neg dh]) ae hpre (by rw [List.head?_cons];simpa using hd)
     rw [e]
     refine wk ?_
     (first|refine dV 15 [5] [0,1,2,3,4,5,6,7,8,9,10,11] H ?_|refine dV 18 [] [0,1,2,3,4,5,6,7,8,9] H ?_);clear H;intro w H
     refine H.wg ?_;clear H;intro w H
     exact ⟨V4,0,false,⟨none,0,0⟩,⟨none,0,0⟩,false,false,dm.trans av,H.sx,rfl,rfl⟩
   | false =>
    rw [hN,Bool.not_false,Bool.and_true,if_pos rfl] at dx
    refine wk ?_
    refine H.nA ?_;clear H;intro w Ya H
    refine wk ?_
    refine Rel.MO (f:=ct) (s:=qs) (l:=nz (qn (aE n) 0 (R.flatten++r))) (x:=((R.flatten.length+r.length:Nat):Int)) ad rfl rfl rfl rfl rfl ag (fun _=>rfl) (by simp [Value.oneCell']) H (by rw [hnl];show (_+1)*8≤_;omega) (by rw [hnl];omega) ?_
    clear H
    intro Dh w H
    rw [show nz (qn (aE n) 0 (R.flatten++r))++[((R.flatten.length+r.length:Nat):Int)]=nz (qn (aE n) 0 (R.flatten++(r++[(x,true)]))) by rw [dx];simp] at H
    refine H.wg ?_;clear H;intro _ _ w H
    refine Rel.cy (f:=cH) (s:=cs) (l:=gs) (x:=c) ad rfl rfl rfl rfl rfl ag (fun _=>rfl) (by simp [Value.oneCell']) H (by show (gs.length+1)*24≤_;omega) aa ?_
    clear H
    intro eJ w H
    have kI:Pw lq V3 (gs++[c]) ((r++[(x,true)]).map Prod.fst):=Bo
    by_cases ht0:t.length=0
    ·have ht:t=[]:=List.eq_nil_of_length_eq_zero ht0
     have e:eh (aE n) (aZ k) l=some (R++[r++[(x,true)]],true):=by rw [aL,Dn (by rw [fu,ht];rfl)]
     rw [e]
     have H1:=H.fX
     clear H
     obtain ⟨V4,av,H,hcs⟩:=Rel.aJ H1 (fun _=>rfl) ag
     clear H1
     refine wk ?_
     refine H.nA ?_;clear H;intro w EW H
     refine wk ?_
     refine Rel.cy (f:=cH) (s:=rs) (l:=hh) (x:=eJ) ad rfl rfl rfl rfl rfl ag (fun _=>rfl) (by simp [Value.oneCell']) H (by show (hh.length+1)*24≤_;omega) aa ?_
     clear H
     intro dv w H
     refine H.wg ?_;clear H;intro _ _ w H
     have H1:=H.fX
     clear H
     obtain ⟨V5,aF,H,aS⟩:=Rel.aJ H1 (fun _=>rfl) ag
     have H2:=H.fX
     clear H H1
     obtain ⟨V6,bL,H,ga⟩:=Rel.aJ H2 (fun _=>rfl) ag
     refine ⟨V6,n,k,dv,Dh,true,true,((dm.trans av).trans aF).trans bL,H.sx,rfl,rfl,rfl,rfl,rfl,⟨hh++[eJ],aS.up bL,?_⟩,?_⟩
     ·rw [sJ]
      exact (hP2.up kD ((av.trans aF).trans bL)).snoc ⟨gs++[c],hcs.up (aF.trans bL),kI.up (fun _ _ _ _ k h=>h.up k) ((av.trans aF).trans bL)⟩
     ·rw [j1]
      exact ga
    refine wk ?_
    (first|refine dV 15 [5] [0,1,2,3,4,5,6,7,8,9,10,11] H ?_|refine dV 18 [] [0,1,2,3,4,5,6,7,8,9] H ?_);clear H;intro w H
    refine wk ?_
    refine (AY H.data n k).use ?_
    rintro v w ⟨V4,er,av,K,rfl,ug⟩
    (replace H:=Rel.call H K)
    simp only [List.nil_append] at H
    refine wk ?_
    refine (tx H.data (kQ.up av) ug).use ?_
    rintro v w ⟨⟨vf,rfl,uw⟩,K⟩
    (replace H:=Rel.call H K)
    simp only [List.nil_append] at H
    have hel:=DZ k
    by_cases hpre:t.take (aZ k).length=aZ k
    ·rw [decide_eq_true hpre]
     have htl:=congrArg List.length hpre
     rw [List.length_take] at htl
     have dh:t.head?≠some 34:=fun h=>BI h hpre
     have e:eh (aE n) (aZ k) l=mW (aE n) (aZ k) (R++[r++[(x,true)]]) (t.drop (aZ k).length):=by rw [aL,Dp (lg k) (by rw [fu,if_neg dh]) hpre]
     have H1:=H.fX
     clear H
     obtain ⟨V5,aF,H,hcs⟩:=Rel.aJ H1 (fun _=>rfl) ag
     clear H1
     refine wk ?_
     refine H.nA ?_;clear H;intro w Ah H
     refine wk ?_
     refine Rel.cy (f:=cH) (s:=rs) (l:=hh) (x:=eJ) ad rfl rfl rfl rfl rfl ag (fun _=>rfl) (by simp [Value.oneCell']) H (by show (hh.length+1)*24≤_;omega) aa ?_
     clear H
     intro dv w H
     refine H.wg ?_;clear H;intro _ w H
     refine ⟨sB,(vf,t.drop (aZ k).length,R++[r++[(x,true)]],dv,hh++[eJ],Dh),⟨?_,trivial⟩,⟨e,?_,?_,V5,(dm.trans av).trans aF,(uw hpre).up aF,?_,?_⟩,?_⟩
     ·show some (Value.int .i64 _)=some (.int .i64 _)
      congr 2
      simp only [j1,List.length_append,List.length_cons,List.length_nil]
      omega
     ·simp only [List.length_append,List.length_cons,List.length_nil,List.length_drop]
      omega
     ·simp only [j1,List.length_append,List.length_cons,List.length_nil,List.length_drop]
      omega
     ·rw [sJ]
      exact (hP2.up kD (av.trans aF)).snoc ⟨gs++[c],hcs,kI.up (fun _ _ _ _ k h=>h.up k) (av.trans aF)⟩
     ·dsimp only
      rw [j1]
      exact H
     ·simp only [List.length_drop]
      omega
    rw [decide_eq_false hpre]
    obtain ⟨d,t2,rfl⟩:∃d t2,t=d::t2:=by
     cases t with
     | nil=>exact absurd rfl ht0
     | cons d t2=>exact ⟨d,t2,rfl⟩
    rw [List.length_cons] at Cc x7
    obtain ⟨p1,c1⟩:=(kQ.up av).aP (g:=bv) (i:=0) (fun _=>rfl) ae
    change V4.cell? _=some (bv d) at c1
    have hgs:=DP hn
    by_cases hd:d=aE n
    ·subst hd
     have ud:aE n≠34:=(sD n).2.1
     have e:eh (aE n) (aZ k) l=gd (aE n) (aZ k) R (r++[(x,true)]) t2:=by rw [aL,Dq (lg k) (by rw [fu,if_neg (by rw [List.head?_cons];simpa using ud)]) hpre]
     have jt:=(oE (kQ.up av) (i:=1) ae).2
     rw [show List.drop 1 (aE n::t2)=t2 from rfl] at jt
     refine wk ?_
     (first|refine dV 15 [5] [0,1,2,3,4,5,6,7,8,9,10,11] H ?_|refine dV 18 [] [0,1,2,3,4,5,6,7,8,9] H ?_);clear H;intro w H
     refine H.wg ?_;clear H;intro w H
     refine ⟨sB,(⟨aD q2.a 1 q2.cap 1,q2.len - 1,q2.cap - 1⟩,t2,r++[(x,true)],eJ,gs++[c],Dh),⟨?_,rfl,trivial⟩,⟨e,?_,?_,V4,dm.trans av,jt,hP2.up kD av,kI.up (fun _ _ _ _ k h=>h.up k) av,H⟩,?_⟩
     ·show some (Value.int .i64 _)=some (.int .i64 _)
      congr 2
      simp only [List.length_append,List.length_cons,List.length_nil]
      omega
     ·simp only
      omega
     ·simp only [List.length_append,List.length_cons,List.length_nil]
      omega
     ·simp only
      omega
    ·have BH:d.toNat≠(aE n).toNat:=fun h=>hd (UInt8.toNat_inj.1 h)
     have e:eh (aE n) (aZ k) l=none:=by
      rw [aL]
      by_cases dh:(d::t2).head?=some 34
      ·exact yW (by rw [fu,if_pos dh])
      ·exact Dr (by rw [fu,if_neg dh]) ae hpre (by rw [List.head?_cons];simpa using hd)
     rw [e]
     refine wk ?_
     (first|refine dV 15 [5] [0,1,2,3,4,5,6,7,8,9,10,11] H ?_|refine dV 18 [] [0,1,2,3,4,5,6,7,8,9] H ?_);clear H;intro w H
     refine H.wg ?_;clear H;intro w H
     exact ⟨V4,0,false,⟨none,0,0⟩,⟨none,0,0⟩,false,false,dm.trans av,H.sx,rfl,rfl⟩
end
theorem D4 {l:List UInt8} {x:List (List aO)×Bool}:∀ {n i:Nat},n≤6→6 - n≤i→i<6→(∀j,6 - n≤j→j<i→fh j l=none)→fh i l=some x→oN l n=some (i,x)
 | 0,i,_,h1,h2,_,_=>by omega
 | n+1,i,hn,h1,h2,h3,h4=>by
  unfold oN
  by_cases e:i=5 - n
  ·rw [←e,h4]
  ·rw [h3 (5 - n) aa aa]
   exact D4 aa aa h2 (fun j h5 h6=>h3 j aa h6) h4
theorem K0 {l:List UInt8}:∀ {n:Nat},n≤6→(∀j,6 - n≤j→j<6→fh j l=none)→oN l n=none
 | 0,_,_=>rfl
 | n+1,hn,h=>by
  unfold oN
  rw [h (5 - n) aa aa]
  exact K0 aa fun j h1 h2=>h j aa h2
section
variable {V W:World}
theorem KP (hV:Sub V W) (n:Nat) (k o:Bool) {rs qs:Sl} {R:List (List aO)} (hs:mj V rs (gi R)) (hl:R.length≤100000):aj Tryz.prog 233 [.agg (gr n k rs qs o).toArray].toArray W fun v w'=>v=.bool (lf k R o)∧Rel W V [] V w':=by
 have H:=Rel.start hV
 have hlen:=hs.len
 rw [List.length_map] at hlen
 refine eV Tryz.func233 32 [0,1,2] ?_
 cases R with
 | nil =>
  have mI:rs.len=0:=hlen
  rw [show lf k [] o=false by simp [lf]]
  clear hl hs hlen
  refine wk ?_
  refine H.nA ?_;clear H;intro w b1 H
  conv=>whnf
  refine H.ce ?_
  conv=>whnf
  refine cF ?_
  conv=>whnf
  exact ⟨rfl,H.sx⟩
 | cons r R =>
  rw [List.length_cons] at hlen hl
  obtain ⟨xs,h1,h2⟩:=hs
  have G5:=h2.len
  rw [List.length_map,List.length_cons] at G5
  obtain ⟨p0,c0⟩:=h1.aP (g:=fun x:Sl=>x.v) (fun _=>rfl) (i:=0) aa
  obtain ⟨gs,g1,g2⟩:=h2.all 0 (xs[0]'aa) (r.map Prod.fst) (List.getElem?_eq_getElem _) rfl
  have GZ:=g1.len
  have G1:=g2.len
  rw [List.length_map] at G1
  obtain ⟨x,hx⟩:∃x,x=xs[0]'aa:=⟨_,rfl⟩
  rw [←hx] at c0 GZ
  have e:lf k (r::R) o=(decide (2≤r.length)&&(!k||decide (1<(r::R).length)||!o)):=by simp [lf]
  rw [e,List.length_cons]
  by_cases hr:2≤r.length
  ·rw [decide_eq_true hr,Bool.true_and]
   cases k with
   | false =>
    refine wk ?_
    refine H.nA ?_;clear H;intro w b1 H
    refine wk ?_
    first|exact H.sx|exact ⟨rfl,H.sx⟩
   | true =>
    by_cases hR:1<R.length+1
    ·rw [decide_eq_true hR]
     refine wk ?_
     refine H.nA ?_;clear H;intro w b1 H
     refine wk ?_
     first|exact H.sx|exact ⟨rfl,H.sx⟩
    ·rw [decide_eq_false hR]
     cases o with
     | true =>
      refine wk ?_
      refine H.nA ?_;clear H;intro w b1 H
      refine wk ?_
      first|exact H.sx|exact ⟨rfl,H.sx⟩
     | false =>
      refine wk ?_
      refine H.nA ?_;clear H;intro w b1 H
      refine wk ?_
      first|exact H.sx|exact ⟨rfl,H.sx⟩
  ·rw [decide_eq_false hr,Bool.false_and]
   refine wk ?_
   refine H.nA ?_;clear H;intro w b1 H
   refine wk ?_
   first|exact H.sx|exact ⟨rfl,H.sx⟩
structure Mk (W V:World) (x:Option (Nat×List (List aO)×Bool)) (v:Value) (w':World):Prop where
 ex:∃(V':World) (m:Nat) (j:Bool) (rs qs:Sl) (o g:Bool),Sub V V'∧Rel W V [] V' w'∧v=.tuple #[.agg (gr m j rs qs o).toArray,.bool g]∧(match x with
  | none=>g=false∧rs=⟨none,0,0⟩
  | some y=>g=true∧m=y.1 / 2∧j=dk y.1∧o=y.2.2∧mj V' rs (gi y.2.1)∧aw ct V' qs (nz (qn (aE (y.1 / 2)) 0 y.2.1.flatten)))
theorem Pd (hV:Sub V W) (hT:kA V) (hM:jO V) {s:Sl} {l:List UInt8} (hs:ao V s l) (hl:l.length≤1000):aj Tryz.prog 151 [s.v].toArray W (Mk W V (oM l)):=by
 have H:=Rel.start hV
 refine eV Tryz.func151 35 [0,2,3,4,6,7,8,9,10,12,13,14,15,30] ?_
 refine wk ?_
 refine H.nA ?_;clear H;intro w b2 H
 refine wk ?_
 refine aK (S:=Nat) ad [0,2] (fun sp=>[(9,iv sp)]) (fun sp w'=>sp≤3∧(∀j,j<2*sp→fh j l=none)∧∃V2,Sub V V2∧Rel W V [.al b2 (gr 0 false ⟨none,0,0⟩ ⟨none,0,0⟩ false) 187] V2 w') (fun sp _=>3 - sp) 0 ?_
 conv=>whnf
 refine ⟨sB,⟨aa,fun j h=>by omega,V,Sub.refl _,H⟩,?_⟩
 clear H
 rintro sp w ⟨Zk,hno,V2,hV2,H⟩
 by_cases hsp:sp<3
 rotate_left
 ·have e:oM l=none:=K0 (Nat.le_refl _) fun j _ h=>hno j aa
  rw [e]
  refine H.wg ?_;clear H;intro w H
  exact ⟨V2,0,false,⟨none,0,0⟩,⟨none,0,0⟩,false,false,hV2,H.sx,rfl,rfl,rfl⟩
 refine wk ?_
 refine H.nA ?_;clear H;intro w oW H
 obtain ⟨V4,av,H2,hb⟩:=H.bJ
 clear H
 have H:=H2
 clear H2
 have hB:∀ {V':World},Sub V4 V'→bD V' oW [.bool false,.bool true] 4:=fun h=>h.bt _ _ _ _ hb
 refine wk ?_
 refine aK (S:=Nat) ad [0,2,4,9,10,12,13] (fun j=>[(14,iv j)]) (fun j w'=>j≤2∧(∀i,i<2*sp+j→fh i l=none)∧∃V2,Sub V V2∧Sub V4 V2∧Rel W V [.al b2 (gr 0 false ⟨none,0,0⟩ ⟨none,0,0⟩ false) 187] V2 w') (fun j _=>2 - j) 0 ?_
 conv=>whnf
 refine ⟨sB,⟨aa,fun i h=>hno i aa,V4,hV2.trans av,Sub.refl _,H⟩,?_⟩
 clear H hV2 hno av V2
 rintro j w ⟨hj,hno,V2,hV2,tX,H⟩
 have gO:=hB tX
 have Yi:=gO.bt (i:=0) rfl
 have Yj:=gO.bt (i:=1) rfl
 obtain rfl|rfl|rfl:j=0∨j=1∨j=2:=aa
 ·have d2:(2*sp) / 2=sp:=aa
  have d3:dk (2*sp)=false:=by unfold dk;exact decide_eq_false aa
  refine wk ?_
  refine (J7 H.data (sH hT hV2) (hM.up hV2) (n:=sp) hsp false (hs.up hV2) hl).use ?_
  rintro v w ⟨V3,m,jj,rs,qs,o,g,ar,K,rfl,hres⟩
  (replace H:=Rel.call H K)
  simp only [List.nil_append] at H
  have dm:=hV2.trans ar
  refine wk ?_
  refine H.nA ?_;clear H;intro w b7 H
  cases hr:eh (aE sp) (aZ false) l with
  | none =>
   rw [hr] at hres
   obtain rfl:=hres
   have hone:fh (2*sp) l=none:=by unfold fh;rw [d2,d3,hr]
   refine H.wg ?_;clear H;intro w H
   exact ⟨sB,1,sB,⟨aa,fun i h=>if e:i=2*sp then e ▸ hone else hno i aa,V3,dm,tX.trans ar,H.sx⟩,aa⟩
  | some y =>
   obtain ⟨R,op⟩:=y
   rw [hr] at hres
   obtain ⟨rfl,hm,rfl,rfl,aS,ga⟩:=hres
   obtain rfl:sp=m:=hm.symm
   obtain ⟨q1,q2,q3⟩:=rz (s:=aE sp) (lg false) o R
   rw [←(Dm hr).1] at q1 q3
   refine H.wg ?_;clear H;intro w H
   refine (KP H.data sp false o (qs:=qs) aS aa).use ?_
   rintro v w ⟨rfl,K⟩
   (replace H:=Rel.call H K)
   simp only [List.nil_append] at H
   cases uC:lf false R o with
   | true =>
    have hone:fh (2*sp) l=some (R,o):=by unfold fh;rw [d2,d3,hr];simp only;rw [if_pos uC]
    have e:oM l=some (2*sp,R,o):=D4 aa aa aa (fun j _ h=>hno j aa) hone
    rw [e]
    refine H.wg ?_;clear H;intro w H
    exact ⟨V3,sp,false,rs,qs,o,true,dm,H.sx,rfl,rfl,by rw [d2],by rw [d3],rfl,aS,by rw [d2];exact ga⟩
   | false =>
    have hone:fh (2*sp) l=none:=by unfold fh;rw [d2,d3,hr];simp only;rw [if_neg (by rw [uC];decide)]
    refine wk ?_
    exact ⟨sB,1,sB,⟨aa,fun i h=>if e:i=2*sp then e ▸ hone else hno i aa,V3,dm,tX.trans ar,H.sx⟩,aa⟩
 ·have d2:(2*sp+1) / 2=sp:=aa
  have d3:dk (2*sp+1)=true:=by unfold dk;exact decide_eq_true aa
  refine wk ?_
  refine (J7 H.data (sH hT hV2) (hM.up hV2) (n:=sp) hsp true (hs.up hV2) hl).use ?_
  rintro v w ⟨V3,m,jj,rs,qs,o,g,ar,K,rfl,hres⟩
  (replace H:=Rel.call H K)
  simp only [List.nil_append] at H
  have dm:=hV2.trans ar
  refine wk ?_
  refine H.nA ?_;clear H;intro w b7 H
  cases hr:eh (aE sp) (aZ true) l with
  | none =>
   rw [hr] at hres
   obtain rfl:=hres
   have hone:fh (2*sp+1) l=none:=by unfold fh;rw [d2,d3,hr]
   refine H.wg ?_;clear H;intro w H
   exact ⟨sB,2,sB,⟨aa,fun i h=>if e:i=2*sp+1 then e ▸ hone else hno i aa,V3,dm,tX.trans ar,H.sx⟩,aa⟩
  | some y =>
   obtain ⟨R,op⟩:=y
   rw [hr] at hres
   obtain ⟨rfl,hm,rfl,rfl,aS,ga⟩:=hres
   obtain rfl:sp=m:=hm.symm
   obtain ⟨q1,q2,q3⟩:=rz (s:=aE sp) (lg true) o R
   rw [←(Dm hr).1] at q1 q3
   refine H.wg ?_;clear H;intro w H
   refine (KP H.data sp true o (qs:=qs) aS aa).use ?_
   rintro v w ⟨rfl,K⟩
   (replace H:=Rel.call H K)
   simp only [List.nil_append] at H
   cases uC:lf true R o with
   | true =>
    have hone:fh (2*sp+1) l=some (R,o):=by unfold fh;rw [d2,d3,hr];simp only;rw [if_pos uC]
    have e:oM l=some (2*sp+1,R,o):=D4 aa aa aa (fun j _ h=>hno j aa) hone
    rw [e]
    refine H.wg ?_;clear H;intro w H
    exact ⟨V3,sp,true,rs,qs,o,true,dm,H.sx,rfl,rfl,by rw [d2],by rw [d3],rfl,aS,by rw [d2];exact ga⟩
   | false =>
    have hone:fh (2*sp+1) l=none:=by unfold fh;rw [d2,d3,hr];simp only;rw [if_neg (by rw [uC];decide)]
    refine wk ?_
    exact ⟨sB,2,sB,⟨aa,fun i h=>if e:i=2*sp+1 then e ▸ hone else hno i aa,V3,dm,tX.trans ar,H.sx⟩,aa⟩
 ·refine wk ?_
  exact ⟨sB,sp+1,sB,⟨aa,fun i h=>hno i aa,V2,hV2,H.sx⟩,aa⟩
end
abbrev s7 (V:World) (h:VH) (r:List (List UInt8)):Prop:=bc V h (oB r)
theorem Ke:∀(V V':World) (x:VH) (y:List (List UInt8)),Sub V V'→s7 V x y→s7 V' x y:=fun _ _ _ _ k h=>h.up k
theorem Va {V:World} {s:Sl} {gs:List Sl} {r:List (List UInt8)} (h1:aw br V s (gs.map eU)) (h2:Pw lq V gs r):s7 V ⟨3,0,⟨none,0,0⟩,⟨none,0,0⟩,s⟩ r :=
 .mk (gs.map eU) rfl rfl (aw.nil _ _) (aw.nil _ _) h1 (by show (gs.map eU).length=(r.map o8).length;rw [List.length_map,List.length_map,h2.len]) fun i x p hx hp=>by
  have hp:(r.map o8)[i]?=some p:=hp
  rw [List.getElem?_map] at hx hp
  cases hg:gs[i]? with
  | none=>rw [hg] at hx;cases hx
  | some g =>
   cases hr:r[i]? with
   | none=>rw [hr] at hp;cases hp
   | some y =>
    rw [hg] at hx
    rw [hr] at hp
    cases hx
    cases hp
    exact qB (h2.all i g y hg hr)
theorem WE {V:World} {s:Sl} {hs:List VH} {T:kB} (h1:aw br V s hs) (h2:Pw s7 V hs T):bc V ⟨3,0,⟨none,0,0⟩,⟨none,0,0⟩,s⟩ (lh T) :=
 .mk hs rfl rfl (aw.nil _ _) (aw.nil _ _) h1 (by show hs.length=(T.map oB).length;rw [h2.len,List.length_map]) fun i x p hx hp=>by
  have hp:(T.map oB)[i]?=some p:=hp
  rw [List.getElem?_map] at hp
  cases hT:T[i]? with
  | none=>rw [hT] at hp;cases hp
  | some y =>
   rw [hT] at hp
   cases hp
   exact h2.all i x y hx hT
section
variable {V W:World}
theorem JI (hV:Sub V W) (n:Nat) (k o:Bool) {rs qs:Sl} {T:kB} (hs:mj V rs T) (hl:T.length≤100000) (hrl:∀r∈T,r.length≤100000):aj Tryz.prog 152 [.agg (gr n k rs qs o).toArray].toArray W fun v w'=>∃(V':World) (h:VH),Sub V V'∧Rel W V [] V' w'∧v=fG h∧bc V' h (lh T):=by
 have H:=Rel.start hV
 have hlen:=hs.len
 obtain ⟨xs,h1,h2⟩:=hs
 have G5:=h2.len
 refine eV Tryz.func152 40 [0,1,2,3,5,6,8,11,12,13,14,18,19,20,21] ?_
 refine wk ?_
 refine H.nA ?_;clear H;intro w b1 H
 refine wk ?_
 refine H.nA ?_;clear H;intro w b2 H
 refine wk ?_
 refine H.nA ?_;clear H;intro w b3 H
 refine H.wg ?_;clear H;intro w H
 replace H:=H.bw 27 5
 have H0:Rel W V [.row ⟨none,0,0⟩ 27 5 [],.al b3 [iv 3,iv 0,.slice none 0 0,.slice none 0 0,.slice none 0 0] 27,.al b2 (br cw) 27,.al b1 (gr n k rs qs o) 187] V w:=H.pick
 clear H
 have H:=H0
 clear H0
 refine aK (S:=Nat×Sl×List VH) ad [0,1,2,3,11,12] (fun z=>[(13,iv z.1)]) (fun z w'=>z.1≤T.length∧∃V2,Sub V V2∧Pw s7 V2 z.2.2 (T.take z.1)∧Rel W V [.row z.2.1 27 5 (z.2.2.flatMap br),.al b3 [iv 3,iv 0,.slice none 0 0,.slice none 0 0,z.2.1.v] 27,.al b2 (br cw) 27,.al b1 (gr n k rs qs o) 187] V2 w') (fun z _=>T.length - z.1) (0,⟨none,0,0⟩,[]) ?_
 conv=>whnf
 refine ⟨sB,⟨aa,V,Sub.refl _,Pw.nil,H⟩,?_⟩
 clear H
 rintro ⟨i,pr,hh⟩ w ⟨hi,V2,hV2,hP,H⟩
 dsimp only at hi hP H ⊢
 have PU:=hP.len
 rw [List.length_take] at PU
 by_cases hlt:i<T.length
 rotate_left
 ·obtain rfl:i=T.length:=aa
  rw [List.take_length] at hP
  refine H.wg ?_;clear H;intro w H
  obtain ⟨V3,ar,H,hr⟩:=Rel.aJ H (fun _=>rfl) ag
  exact ⟨V3,⟨3,0,⟨none,0,0⟩,⟨none,0,0⟩,pr⟩,hV2.trans ar,H.sx,rfl,WE hr (hP.up Ke ar)⟩
 obtain ⟨p0,c0⟩:=(h1.up hV2).aP (g:=fun x:Sl=>x.v) (fun _=>rfl) (i:=i) aa
 obtain ⟨gs,g1,g2⟩:=h2.all i (xs[i]'aa) T[i] (List.getElem?_eq_getElem _) (List.getElem?_eq_getElem _)
 have ht:=List.take_succ_eq_append_getElem hlt
 obtain ⟨r,hr⟩:∃r,r=T[i]:=⟨_,rfl⟩
 obtain ⟨x,hx⟩:∃x,x=xs[i]'aa:=⟨_,rfl⟩
 have Zh:=hrl r (by rw [hr];exact List.getElem_mem hlt)
 rw [←hr] at g2 ht
 rw [←hx] at c0 g1
 have GZ:=g1.len
 have G1:=g2.len
 refine wk ?_
 refine H.nA ?_;clear H;intro w b6 H
 refine H.wg ?_;clear H;intro w H
 replace H:=H.bw 27 5
 refine aK (S:=Nat×Sl) ad [0,1,2,3,5,6,11,12,13,14,18,19] (fun z=>[(20,iv z.1)]) (fun z w'=>z.1≤r.length∧Rel W V [.row z.2 27 5 (((gs.take z.1).map eU).flatMap br),.al b6 [iv 3,iv 0,.slice none 0 0,.slice none 0 0,z.2.v] 27,.row pr 27 5 (hh.flatMap br),.al b3 [iv 3,iv 0,.slice none 0 0,.slice none 0 0,pr.v] 27,.al b2 (br cw) 27,.al b1 (gr n k rs qs o) 187] V2 w') (fun z _=>r.length - z.1) (0,⟨none,0,0⟩) ?_
 conv=>whnf
 refine ⟨sB,⟨aa,H⟩,?_⟩
 clear H
 rintro ⟨j,p2⟩ w ⟨hj,H⟩
 dsimp only at hj H ⊢
 by_cases pP:j<r.length
 ·obtain ⟨p1,c1⟩:=(g1.up hV2).aP (g:=fun x:Sl=>x.v) (fun _=>rfl) (i:=j) aa
  obtain ⟨g,hg⟩:∃g,g=gs[j]'aa:=⟨_,rfl⟩
  have HQ:=List.take_succ_eq_append_getElem (l:=gs) (i:=j) aa
  rw [←hg] at c1 HQ
  have ur:((gs.take j).map eU).length=j:=by rw [List.length_map,List.length_take];omega
  refine wk ?_
  refine H.nA ?_;clear H;intro w X8 H
  refine wk ?_
  refine Rel.dj (f:=br) (s:=p2) (l:=(gs.take j).map eU) (x:=eU g) ad rfl rfl rfl rfl rfl ag (fun _=>rfl) (by simp [Value.oneCell']) H (by rw [ur];show (j+1)*88≤_;omega) (by rw [ur];omega) ?_
  clear H
  intro p3 w H
  rw [show (gs.take j).map eU++[eU g]=(gs.take (j+1)).map eU by rw [HQ,List.map_append];rfl] at H
  refine H.wg ?_;clear H;intro w H
  exact ⟨sB,(j+1,p3),sB,⟨by dsimp only;omega,H⟩,by dsimp only;omega⟩
 ·rw [List.take_of_length_le aa] at H
  obtain ⟨V3,ar,H,pU⟩:=Rel.aJ H (fun _=>rfl) ag
  refine wk ?_
  refine H.nA ?_;clear H;intro w X9 H
  refine wk ?_
  refine Rel.cy (f:=br) (s:=pr) (l:=hh) (x:=⟨3,0,⟨none,0,0⟩,⟨none,0,0⟩,p2⟩) ad rfl rfl rfl rfl rfl ag (fun _=>rfl) (by simp [Value.oneCell']) H (by show (hh.length+1)*88≤_;omega) aa ?_
  clear H
  intro Ui w H
  refine H.wg ?_;clear H;intro w H
  refine ⟨sB,(i+1,Ui,hh++[⟨3,0,⟨none,0,0⟩,⟨none,0,0⟩,p2⟩]),sB,⟨by dsimp only;omega,V3,hV2.trans ar,?_,H.sx⟩,by dsimp only;omega⟩
  dsimp only
  rw [ht]
  exact (hP.up Ke ar).snoc (Va pU (g2.up (fun _ _ _ _ k h=>h.up k) (hV2.trans ar)))
theorem A8 (hV:Sub V W) {n:Nat} (hn:n<3) (k o:Bool) (rs qs:Sl):aj Tryz.prog 234 [.agg (gr n k rs qs o).toArray].toArray W fun v w'=>v=iv (fB n k o:Nat)∧Rel W V [] V w':=by
 have H:=Rel.start hV
 refine eV Tryz.func234 17 [0,1,2,3,9,13] ?_
 cases k<;>cases o
 all_goals
  refine wk ?_
  refine H.nA ?_;clear H;intro w b1 H
  refine wk ?_
  first|exact H.sx|exact ⟨rfl,H.sx⟩
theorem U4 (hV:Sub V W) {n:Nat} (hn:n<3) (k o:Bool) (rs:Sl) {qs:Sl} {Z:List Nat} (ga:aw ct V qs (nz Z)) (pA:Z.length≤1000) (hZ:∀n∈Z,n≤1000):aj Tryz.prog 153 [.agg (gr n k rs qs o).toArray].toArray W fun v w'=>∃(V':World) (r:Sl),Sub V V'∧Rel W V [] V' w'∧v=r.v∧ao V' r (iZ (fB n k o) Z):=by
 have H:=Rel.start hV
 have dI:=ga.len
 rw [List.length_map] at dI
 obtain ⟨f1,_⟩:=zt (n:=n) aa k o
 refine eV Tryz.func153 19 [0,1,2,11] ?_
 refine wk ?_
 refine H.nA ?_;clear H;intro w b1 H
 refine wk ?_
 refine (A8 H.data hn k o rs qs).use ?_
 rintro v w ⟨rfl,K⟩
 (replace H:=Rel.call H K)
 simp only [List.nil_append] at H
 by_cases h0:fB n k o=0∧Z=[]
 ·have e:iZ (fB n k o) Z=[]:=by unfold iZ;rw [if_pos h0]
  obtain ⟨h1,h2⟩:=h0
  have h3:Z.length=0:=by rw [h2];rfl
  rw [e]
  refine wk ?_
  exact ⟨V,⟨none,0,0⟩,Sub.refl _,H.sx,rfl,aw.nil _ _⟩
 have e:iZ (fB n k o) Z=ax (fB n k o:Nat)++bj ax (nz Z):=by unfold iZ;rw [if_neg h0]
 rw [e]
 have hpl:=JM (Z:=Z) pA hZ
 have hpn:=cD (n:=((fB n k o:Nat):Int)) aa aa
 by_cases h1:fB n k o=0
 ·have h3:Z.length≠0:=fun q=>h0 ⟨h1,List.eq_nil_of_length_eq_zero q⟩
  refine wk ?_
  refine dV 3 [1,2] [0,3,4,1,2,5,6,7] H ?_;clear H;intro w H
  refine wk ?_
  refine (A8 H.data hn k o rs qs).use ?_
  rintro v w ⟨rfl,K⟩
  (replace H:=Rel.call H K)
  simp only [List.nil_append] at H
  refine wk ?_
  refine (eQ (n:=((fB n k o:Nat):Int)) H.data (by constructor<;>omega)).use ?_
  rintro v w ⟨r1,rfl,K⟩
  (replace H:=Rel.call H K)
  simp only [List.cons_append,List.nil_append] at H
  refine wk ?_
  refine (vy (l:=nz Z) (enc:=ax) H.data ga (fun z hz=>u9 z ?_) (by rw [List.length_map];omega) aa).use ?_
  ·obtain ⟨m,hm,rfl⟩:=List.mem_map.1 hz
   have:=hZ m hm
   constructor<;>omega
  rintro v w ⟨r2,rfl,K⟩
  (replace H:=Rel.call H K)
  simp only [List.cons_append,List.nil_append] at H
  refine wk ?_
  refine Rel.cQ H (i:=0) rfl aa ?_
  clear H
  intro rn w H
  simp only [List.set_cons_zero] at H
  obtain ⟨V3,ar,H,bB⟩:=Rel.aJ H (fun _=>rfl) ag
  refine wk ?_
  exact ⟨V3,rn,ar,H.sx,rfl,bB⟩
 ·refine wk ?_
  refine dV 3 [1,2] [0,3,4,1,2,5,6,7] H ?_;clear H;intro w H
  refine wk ?_
  refine (A8 H.data hn k o rs qs).use ?_
  rintro v w ⟨rfl,K⟩
  (replace H:=Rel.call H K)
  simp only [List.nil_append] at H
  refine wk ?_
  refine (eQ (n:=((fB n k o:Nat):Int)) H.data (by constructor<;>omega)).use ?_
  rintro v w ⟨r1,rfl,K⟩
  (replace H:=Rel.call H K)
  simp only [List.cons_append,List.nil_append] at H
  refine wk ?_
  refine (vy (l:=nz Z) (enc:=ax) H.data ga (fun z hz=>u9 z ?_) (by rw [List.length_map];omega) aa).use ?_
  ·obtain ⟨m,hm,rfl⟩:=List.mem_map.1 hz
   have:=hZ m hm
   constructor<;>omega
  rintro v w ⟨r2,rfl,K⟩
  (replace H:=Rel.call H K)
  simp only [List.cons_append,List.nil_append] at H
  refine wk ?_
  refine Rel.cQ H (i:=0) rfl aa ?_
  clear H
  intro rn w H
  simp only [List.set_cons_zero] at H
  obtain ⟨V3,ar,H,bB⟩:=Rel.aJ H (fun _=>rfl) ag
  refine wk ?_
  exact ⟨V3,rn,ar,H.sx,rfl,bB⟩
theorem WV (hV:Sub V W) (hT:kA V) (hM:jO V) {s:Sl} {l:List UInt8} (hs:ao V s l) (hl:l.length≤1099511627776):aj Tryz.prog 64 [s.v].toArray W (gZ W V (aU (eD l) l.length)):=by
 have H:=Rel.start hV
 have hlen:=hs.len
 refine eV Tryz.func64 34 [0,2,3,4,5,6,7,10,27] ?_
 refine wk ?_
 refine H.nA ?_;clear H;intro w b2 H
 refine wk ?_
 refine H.nA ?_;clear H;intro w b4 H
 by_cases bR:1000<l.length
 ·have e:aU (eD l) l.length=⟨zeroV,[],3, -1⟩:=by unfold aU;rw [if_pos bR]
  rw [e]
  refine wk ?_
  refine (A3 H.data 3 (-1)).use ?_
  rintro v w ⟨rfl,K⟩
  (replace H:=Rel.call H K)
  simp only [List.nil_append] at H
  refine H.wg ?_;clear H;intro _ w H
  exact ⟨V,cw,⟨none,0,0⟩,Sub.refl _,H.sx,rfl,gG _,aw.nil _ _⟩
 refine wk ?_
 refine (Pd H.data hT hM hs aa).use ?_
 rintro v w ⟨V2,m,j,rs,qs,o,g,hV2,K,rfl,hres⟩
 (replace H:=Rel.call H K)
 simp only [List.nil_append] at H
 refine wk ?_
 refine H.nA ?_;clear H;intro w b5 H
 cases hf:oM l with
 | none =>
  rw [hf] at hres
  obtain ⟨rfl,rfl⟩:=hres
  have e:aU (eD l) l.length=⟨zeroV,[],21, -1⟩:=by unfold aU;rw [if_neg bR,eD,hf]
  rw [e]
  refine H.wg ?_;clear H;intro w H
  refine (JI H.data m j o (qs:=qs) (mj.nil _) ae ae).use ?_
  rintro v w ⟨V3,h,ar,K,rfl,hv⟩
  (replace H:=Rel.call H K)
  simp only [List.nil_append] at H
  refine wk ?_
  refine H.nA ?_;clear H;intro w b7 H
  refine H.wg ?_;clear H;intro w H
  refine (A3 H.data 21 (-1)).use ?_
  rintro v w ⟨rfl,K⟩
  (replace H:=Rel.call H K)
  simp only [List.nil_append] at H
  refine H.wg ?_;clear H;intro _ w H
  exact ⟨V3,cw,⟨none,0,0⟩,hV2.trans ar,H.sx,rfl,gG _,aw.nil _ _⟩
 | some y =>
  obtain ⟨i,R,op⟩:=y
  rw [hf] at hres
  obtain ⟨rfl,rfl,rfl,rfl,aS,ga⟩:=hres
  dsimp only at aS ga ⊢
  have F:=KZ hf
  have hi:=F.lt
  obtain ⟨q1,q2,q3⟩:=rz (s:=aE (i / 2)) (lg (dk i)) o R
  rw [←F.eq] at q1 q2 q3
  have hrl:∀r∈gi R,r.length≤100000:=fun r hr=>by
   obtain ⟨x,hx,rfl⟩:=List.mem_map.1 hr
   have:=CI hx
   rw [List.length_map]
   omega
  have Bv:VB 1048576 (lh (gi R)):=LN (by simp;omega) fun a ha=>⟨Nat.le_trans (hrl a ha) ag,fun y hy=>by
   obtain ⟨x,hx,rfl⟩:=List.mem_map.1 ha
   obtain ⟨c,hc,rfl⟩:=List.mem_map.1 hy
   have:=q2 x hx c hc
   omega⟩
  have hto:eD l=vG i R o:=by unfold eD;rw [hf]
  refine H.wg ?_;clear H;intro w H
  refine (JI H.data (i / 2) (dk i) o (qs:=qs) aS (by simp;omega) hrl).use ?_
  rintro v w ⟨V3,h,ar,K,rfl,hv⟩
  (replace H:=Rel.call H K)
  simp only [List.nil_append] at H
  refine wk ?_
  refine H.nA ?_;clear H;intro w b7 H
  refine H.wg ?_;clear H;intro w H
  refine (sP H.data hv Bv).use ?_
  rintro q w ⟨rfl,K⟩
  (replace H:=Rel.call H K)
  simp only [List.nil_append] at H
  by_cases cK:(bC (lh (gi R))).1=0
  rotate_left
  ·have e:aU (eD l) l.length=⟨zeroV,[],21, -1⟩:=by unfold aU;rw [if_neg bR,hto];unfold vG;rw [if_neg cK]
   rw [e]
   refine wk ?_
   refine (A3 H.data 21 (-1)).use ?_
   rintro v w ⟨rfl,K⟩
   (replace H:=Rel.call H K)
   simp only [List.nil_append] at H
   refine H.wg ?_;clear H;intro _ w H
   exact ⟨V3,cw,⟨none,0,0⟩,hV2.trans ar,H.sx,rfl,gG _,aw.nil _ _⟩
  have e:aU (eD l) l.length=⟨lh (gi R),iZ (fB (i / 2) (dk i) o) (qn (aE (i / 2)) 0 R.flatten),0,0⟩:=by unfold aU;rw [if_neg bR,hto];unfold vG;rw [if_pos cK]
  rw [e,sR cK]
  have Rd:=yT (s:=aE (i / 2)) (e:=aZ (dk i)) o R 0
  rw [←F.eq] at Rd
  have hok:=CV (s:=aE (i / 2)) (cs:=R.flatten) aa
  refine wk ?_
  refine dV 7 [2] [0,1,3,2,4,5,6] H ?_;clear H;intro w H
  refine wk ?_
  refine (U4 H.data aa (dk i) o rs (ga.up ar) aa (fun n hn=>?_)).use ?_
  ·have:=hok.1 (n:Int) (List.mem_map.2 ⟨n,hn,rfl⟩)
   omega
  rintro v w ⟨V4,r2,av,K,rfl,hr2⟩
  (replace H:=Rel.call H K)
  simp only [List.nil_append] at H
  refine H.wg ?_;clear H;intro _ w H
  exact ⟨V4,_,r2,(hV2.trans ar).trans av,H.sx,rfl,hv.up av,hr2⟩
end
section
open Go Go.RowKit Go.ChangeShapes Go.WideShapes Go.ChangeAt
section
variable {H:Type} {enc:TypeId×Value→H} {P:Program} {W W':World}
theorem qd {α β:Type} {f g:α→Option β}:∀ {l:List α} {ys:List β},(∀a∈l,∀y,f a=some y→g a=some y)→l.mapM f=some ys→l.mapM g=some ys
 | [],ys,_,h=>by simpa using h
 | a::l,ys,hk,h=>by
  rw [List.mapM_cons] at h ⊢
  cases hf:f a with
  | none=>simp [hf] at h
  | some y =>
   cases hl:l.mapM f with
   | none=>simp [hf,hl] at h
   | some zs =>
    rw [hk a ae y hf,qd (fun b hb=>hk b (by simp [hb])) hl]
    rw [hf,hl] at h
    exact h
theorem mapM_mem {α β:Type} {f:α→Option β}:∀ {l:List α} {ys:List β},l.mapM f=some ys→∀a∈l,∃y,f a=some y
 | [],_,_,a,ha=>by simp at ha
 | b::l,ys,h,a,ha=>by
  rw [List.mapM_cons] at h
  cases hf:f b with
  | none=>simp [hf] at h
  | some y =>
   cases hl:l.mapM f with
   | none=>simp [hf,hl] at h
   | some zs =>
    rcases List.mem_cons.1 ha with rfl|ha
    ·exact ⟨y,hf⟩
    ·exact mapM_mem hl a ha
theorem Nu (hbl:∀k,k<W.heap.size→W'.heap[k]?=W.heap[k]?) {a:Addr} {v:Value} (h:W.cell? a=some v):W'.cell? a=some v:=by
 rw [World.cell?_of_block (hbl _ (World.block_lt_of_cell? _ _ h))];exact h
theorem Nx (hbl:∀k,k<W.heap.size→W'.heap[k]?=W.heap[k]?) {b:Nat} {a:Addr} {n:Nat} {cs:List Value} (h:W.cells? b a n=some cs):W'.cells? b a n=some cs:=by
 unfold World.cells? at h ⊢
 split at h
 ·rename_i hb
  rw [if_pos hb]
  exact qd (fun i _ y hy=>Nu hbl hy) h
 ·cases h
theorem block_add (a:Addr) (n:Nat):(a.add n).block=a.block:=by unfold Addr.add;split<;>rfl
def tr (P:Program):Bool:=(List.range P.types.size).all fun t=>match P.underlying t with
 | some (.pointer e)=>decide (e<P.types.size)
 | some (.slice e)=>decide (e<P.types.size)&&decide (0<P.cellsOf e)
 | some (.struct fs)=>fs.all fun f=>decide (f.type<P.types.size)
 | some (.array _ e)=>decide (e<P.types.size)
 | some (.map _ e)=>decide (e<P.types.size)
 | _=>true
theorem NN (h:tr P=true) {t:TypeId} (ht:t<P.types.size):(match P.underlying t with
 | some (.pointer e)=>decide (e<P.types.size)
 | some (.slice e)=>decide (e<P.types.size)&&decide (0<P.cellsOf e)
 | some (.struct fs)=>fs.all fun f=>decide (f.type<P.types.size)
 | some (.array _ e)=>decide (e<P.types.size)
 | some (.map _ e)=>decide (e<P.types.size)
 | _=>true)=true:=List.all_eq_true.1 h t (List.mem_range.2 ht)
theorem Xb (hbl:∀k,k<W.heap.size→W'.heap[k]?=W.heap[k]?) (hpos:tr P=true) {sp:Nat→Bool} (hsp:∀b,b<W.heap.size→sp b=true):∀(n:Nat) (t:TypeId) (cs:List Value) (x:DataW H×List MemPlace),t<P.types.size →
  DataW.trod enc P W 0 (fun _=>true) true n t cs=some x→DataW.trod enc P W' 0 sp true n t cs=some x:=by
 intro n
 induction n with
 | zero=>intro t cs x ht h;simp [DataW.trod] at h
 | succ n ih =>
  intro t cs x ht h
  have hcl:=NN hpos ht
  have hel:∀(a:Addr) (m:Nat) (e:TypeId) (y:DataW H×List MemPlace),e<P.types.size→(W.cells? 0 a m).bind (DataW.trod enc P W 0 (fun _=>true) true n e)=some y→(W'.cells? 0 a m).bind (DataW.trod enc P W' 0 sp true n e)=some y:=by
   intro a m e y he hy
   obtain ⟨c,hc,hy⟩:=Option.bind_eq_some_iff.1 hy
   rw [Nx hbl hc]
   exact ih e c y he hy
  unfold DataW.trod at h ⊢
  split at h
  case h_6 e a hu =>
   obtain ⟨y,hy,rfl⟩:=Option.map_eq_some_iff.1 h
   simp only [hu,decide_eq_true_eq] at hcl
   simp only [hel _ _ _ _ hcl hy,Option.map_some]
  case h_8 e a len cap hu =>
   simp only [hu,Bool.and_eq_true,decide_eq_true_eq] at hcl
   obtain ⟨pF,Qn⟩:=hcl
   simp only []
   split at h
   ·rename_i hcond
    rw [if_pos hcond]
    obtain ⟨elems,he,h⟩:=Option.bind_eq_some_iff.1 h
    simp only [if_true] at h
    obtain ⟨rest,hr,hx⟩:=Option.map_eq_some_iff.1 h
    rw [qd (fun i _ y hy=>hel _ _ _ _ pF hy) he]
    simp only [Option.bind_some]
    by_cases hs:sp a.block=true
    ·rw [if_pos hs,qd (fun i _ y hy=>hel _ _ _ _ pF hy) hr]
     simp only [Option.map_some,hx]
    ·have h0:cap - len=0:=by
      refine Decidable.byContradiction fun hne=>hs (hsp _ ?_)
      obtain ⟨y,hy⟩:=mapM_mem hr 0 (List.mem_range.2 aa)
      obtain ⟨c,hc,_⟩:=Option.bind_eq_some_iff.1 hy
      unfold World.cells? at hc
      rw [if_pos (Nat.zero_le _)] at hc
      obtain ⟨v,hv⟩:=mapM_mem hc 0 (List.mem_range.2 Qn)
      have:=World.block_lt_of_cell? _ _ hv
      rwa [block_add,block_add] at this
     rw [if_neg hs]
     rw [h0] at hr
     have gy:rest=[]:=by simpa using hr.symm
     subst gy
     simp only [Option.map_some,hx]
   ·cases h
  case h_9 =>
   rename_i fs hu
   have hcl':∀f∈fs.toList,f.type<P.types.size:=by
    rw [hu] at hcl
    intro f hf
    have:=Array.all_eq_true'.1 hcl f (by simpa using hf)
    simpa using this
   split at h
   ·rename_i hc
    rw [if_pos hc]
    obtain ⟨ys,hy,rfl⟩:=Option.map_eq_some_iff.1 h
    rw [qd (fun i hi y hy=>ih _ _ _ (hcl' i hi) hy) hy]
    rfl
   ·cases h
  case h_10 =>
   rename_i m e hu
   have hcl':e<P.types.size:=by
    rw [hu] at hcl
    simpa using hcl
   split at h
   ·rename_i hc
    rw [if_pos hc]
    obtain ⟨ys,hy,rfl⟩:=Option.map_eq_some_iff.1 h
    rw [qd (fun i _ y hy=>ih _ _ _ hcl' hy) hy]
    rfl
   ·cases h
  case h_14 k e b hu =>
   simp only [hu,decide_eq_true_eq] at hcl
   simp only []
   split at h
   ·rename_i es clock hb
    have hlt:=(Array.getElem?_eq_some_iff.1 hb).1
    rw [hbl b hlt,hb]
    simp only
    split at h
    ·rename_i hc
     rw [if_pos hc]
     obtain ⟨Yq,he,h⟩:=Option.bind_eq_some_iff.1 h
     rw [qd (fun q _ y hy=>?_) he]
     ·exact h
     ·obtain ⟨key,hk,hy⟩:=Option.bind_eq_some_iff.1 hy
      simp only [hk,Option.bind_some]
      split at hy
      ·rename_i hf
       rw [if_pos hf]
       obtain ⟨z,hz,rfl⟩:=Option.map_eq_some_iff.1 hy
       rw [ih _ _ _ hcl hz]
       rfl
      ·cases hy
    ·cases h
   ·cases h
  all_goals first
   | exact h
   | (cases h;done)
   | (rename_i hu;simp only [hu];exact h)
   | (rename_i hu _;simp only [hu];exact h)
theorem Le (hbl:∀k,k<W.heap.size→W'.heap[k]?=W.heap[k]?) (hpos:tr P=true) {sp:Nat→Bool} (hsp:∀b,b<W.heap.size→sp b=true):∀ {ts:List TypeId} {vs:List Value} {ds:List (DataW H)} {ps:List MemPlace},(∀t∈ts,t<P.types.size) →
  DataW.TrodAll enc P W 0 (fun _=>true) true ts vs ds ps→DataW.TrodAll enc P W' 0 sp true ts vs ds ps
 | [],[],[],_,_,h=>h
 | t::ts,v::vs,d::ds,ps,ht,⟨p,q,⟨n,h1⟩,h2,e⟩=>⟨p,q,⟨n,Xb hbl hpos hsp n t _ _ (ht t ae) h1⟩,Le hbl hpos hsp (fun u hu=>ht u (by simp [hu])) h2,e⟩
 | [],[],_::_,_,_,h=>h.elim
 | [],_::_,_,_,_,h=>by cases ‹List (DataW H)›<;>exact h.elim
 | _::_,[],_,_,_,h=>by cases ‹List (DataW H)›<;>exact h.elim
 | _::_,_::_,[],_,_,h=>h.elim
theorem R2 {may:MemPlace→Prop} (hE:Ext W W'):W.keptBut W' may:=by
 refine ⟨hE.os,hE.output,fun i hi=>?_⟩
 rw [hE.block i hi]
 split
 ·rename_i c t fr c' t' Ys h1 h2
  rw [h1] at h2
  cases h2
  exact ⟨rfl,rfl,rfl,fun _ _=>rfl⟩
 ·rename_i es cl Yr Yk h1 h2
  rw [h1] at h2
  cases h2
  exact .inr ⟨rfl,rfl⟩
 ·rfl
theorem R8 {f:Func} {s:ChangeSpec} {apart:Bool} {args:Array Value} {v:Value} {ds gs:List (DataW H)} {before:List MemPlace} (hW:DataW.Whole enc P f.params.toList s.vars apart W args.toList ds gs before) (hvars:s.vars=[])
  (hE:Ext W W') (hpos:tr P=true) (hpar:(f.params.toList.all fun t=>decide (t<P.types.size))=true) {tb:TypeId} (hres:f.resultTypes=#[tb]) (htb:P.underlying tb=some .bool) (hv:v=.bool true)
  (hfn:s.fn H (ds++gs)={ results:=[.lit (.bool true)],args:=ds }):s.post enc P f apart true false false W args v W':=by
 subst hv
 have Bw:=hW
 obtain ⟨p,q,hA,hV,rfl,_,_⟩:=hW
 rw [hvars] at hV
 obtain ⟨rfl,rfl⟩:=trodVars_none hV
 refine ⟨ds,[],p++[],[],p,[],Bw,?_,?_,?_,R2 hE,fun h=>by cases h⟩
 ·rw [hfn,hres]
  exact trodAll_cons_mk (shut_bool htb true) trodAll_mk0
 ·rw [hfn]
  exact Le hE.block hpos (fun b hb=>by simpa using hb) (fun t ht=>by simpa using List.all_eq_true.1 hpar t ht) hA
 ·rw [hfn,hvars]
  exact rfl
theorem Nh (k:IntKind) (l:List Int):Rows.uptoBulkAll (lits (H:=H) k l)=l.length:=by
 induction l with
 | nil=>rfl
 | cons x l ih =>
  simp only [lits,List.map_cons,Rows.uptoBulkAll,Rows.uptoBulk,List.length_cons] at ih ⊢
  omega
theorem Jp {t e:TypeId} (ht:P.underlying t=some (.slice e)) (he:P.underlying e=some (.int .u8)) (hc:P.cellsOf e=1) {r:Reach} {b0:Nat} {v:Value} {d:DataW H} {ps:List MemPlace}
  (hval:Value.okWide P W r b0 t v) (hd:DataW.Trod enc P W 0 (fun _=>true) true t v d ps):∃(s:Sl) (l:List UInt8),v=s.v∧By W s l∧l.length≤Rows.uptoBulk d:=by
 obtain ⟨a,len,cap,rfl⟩:=okWide_slice ht hval
 obtain ⟨fuel,hf⟩:=hd
 rcases open_ints ht he hc hf with ⟨h1,h2⟩|⟨a',Zr,Yh,zs,h1,_,hle,Y4,p7,hx,hcell,Rt⟩
 ·simp only [Value.cells,List.cons.injEq,Value.slice.injEq,and_true] at h1
  obtain ⟨rfl,rfl,rfl⟩:=h1
  exact ⟨⟨none,0,0⟩,[],rfl,⟨rfl,⟨fun h=>absurd rfl h,fun j v hj=>by simp at hj⟩,Nat.le_refl _⟩,Nat.zero_le _⟩
 ·simp only [Value.cells,List.cons.injEq,Value.slice.injEq,and_true] at h1
  obtain ⟨rfl,rfl,rfl⟩:=h1
  simp only [if_true] at p7
  simp only [Prod.mk.injEq] at hx
  obtain ⟨rfl,_⟩:=hx
  have hb:∀n∈zs,0≤n∧n<256:=by
   intro n hn
   have:=Rt n hn
   simp only [Lit.wf,Bool.and_eq_true,decide_eq_true_eq] at this
   have h1:IntKind.u8.min=0:=ag
   have h2:IntKind.u8.max=255:=ag
   omega
  have Qg:∀n,0≤n→n<256→bv (UInt8.ofNat n.toNat)=.int .u8 n:=by
   intro n h0 h1
   simp only [bv,UInt8.toNat_ofNat']
   congr 1
   omega
  refine ⟨⟨some a',len,cap⟩,(zs.take len).map fun n=>UInt8.ofNat n.toNat,rfl,⟨by simp;omega,?_,hle⟩,?_⟩
  ·have hj:∀(j:Nat) (v:Value),(((zs.take len).map fun n=>UInt8.ofNat n.toNat).map bv)[j]?=some v→W.cell? (a'.add j)=some v:=by
    intro j v hv
    simp only [List.map_map,List.getElem?_map,Option.map_eq_some_iff,Function.comp] at hv
    obtain ⟨n,hn,rfl⟩:=hv
    rw [List.getElem?_take] at hn
    split at hn
    ·have hmem:=List.mem_of_getElem? hn
     have hlt:=(List.getElem?_eq_some_iff.1 hn).1
     have:=hcell j hlt
     rw [Qg n (hb n hmem).1 (hb n hmem).2,this]
     simp [List.getD,hn]
    ·cases hn
   have hpl:((zs.take len).map fun n=>UInt8.ofNat n.toNat).map bv≠[]→a'=⟨a'.block,a'.off,none⟩:=by
    intro hne
    obtain ⟨v,r,Rs⟩:=List.exists_cons_of_ne_nil hne
    have h0:=hj 0 v (by rw [Rs];rfl)
    simp only [Addr.add,if_true] at h0
    have hsp:a'.spot=none:=by
     unfold World.cell? at h0
     split at h0
     ·split at h0
      ·cases h0
      ·rename_i hn;simpa using hn
     ·cases h0
    cases a'
    simp at hsp
    subst hsp
    rfl
   refine ⟨fun hne=>by rw [Plain];exact congrArg some (hpl hne),fun j v hv=>?_⟩
   have:=hj j v hv
   rw [hpl (by intro e;rw [e] at hv;simp at hv),addr_add] at this
   exact this
  ·simp only [Rows.uptoBulk,Nh,List.length_map]
   omega
end
end
section
open Go Go.RowKit Go.Shelf
theorem ao.dr {V:World} {s:Sl} {l:List UInt8} (h:ao V s l) {k:Nat} (hk:k≤l.length):ao V ⟨aD s.a k s.cap 1,s.len - k,s.cap - k⟩ (l.drop k):=by
 have:=aw.sub h (n:=1) (fun _=>rfl) (a:=k) (b:=l.length) hk (Nat.le_refl _)
 rw [List.take_length] at this
 rw [h.len]
 exact this
theorem ao.tk {V:World} {s:Sl} {l:List UInt8} (h:ao V s l) {k:Nat} (hk:k≤l.length):ao V ⟨aD s.a 0 s.cap 1,k - 0,s.cap - 0⟩ (l.take k):=aw.sub h (n:=1) (fun _=>rfl) (a:=0) (b:=k) (Nat.zero_le _) hk
theorem ao.WK {V:World} {s:Sl} {l:List UInt8} (h:ao V s l) {k:Nat} (hk:k≤l.length):ao V ⟨aD s.a 0 k 1,k - 0,k - 0⟩ (l.take k):=by
 refine ⟨by simp;omega,Nat.le_refl _,fun hne=>?_,fun j v hj=>?_⟩
 ·have hp:Plain s.a:=h.cells.1 (fun e=>hne (by
   have:l=[]:=by cases l with
    | nil=>rfl
    | cons c r=>simp at e
   rw [this];simp))
  exact (qy hp:Plain (aD s.a 0 k 1))
 ·have BS:(l.flatMap ay)[j]?=some v:=by
   have:=GR (f:=ay) (n:=1) (l:=l) (fun _=>rfl) k
   rw [←this,List.getElem?_take] at hj
   split at hj
   ·exact hj
   ·cases hj
  have hp:Plain s.a:=h.cells.1 (fun e=>by rw [e] at BS;simp at BS)
  have hc:=h.cells.2 j v BS
  have ho:aI (aD s.a 0 k 1)=aI s.a:=by
   by_cases hz:k=0
   ·unfold aD;rw [if_pos hz]
   ·rw [qx hp hz,Nat.zero_mul,Nat.add_zero]
  show V.cell? ⟨aN (aD s.a 0 k 1),aI (aD s.a 0 k 1)+j,none⟩=some v
  rw [qw,ho]
  exact hc
def oD (cs:List UInt8):List Value:=(List.range 256).map fun j=>Value.bool (cs.contains (UInt8.ofNat j))
theorem VL (cs:List UInt8) (x:UInt8):(oD cs)[x.toNat]?=some (.bool (cs.contains x)):=by
 unfold oD
 rw [List.getElem?_map,List.getElem?_range x.toNat_lt]
 simp
section
variable {V W:World}
def UW:Shelf.Ren:=⟨fun _=>295,fun x=>if x=0 then 0 else if x=3 then 3 else if x=4 then 4 else if x=5 then 5 else if x=9 then 9 else if x=27 then 349 else x,fun x=>x⟩
theorem Sc:SlLaysV.n11 Tryz.prog UW where
 mixed:=ab
 f11:=Tryz.func295.trans (congrArg some ab)
 t0:=Tryz.underlying0
 a0:=Tryz.isAgg0
 z0:=Tryz.sizeOf0
 v0:=Tryz.zeroValue0
 t3:=Tryz.underlying3
 a3:=Tryz.isAgg3
 z3:=Tryz.sizeOf3
 v3:=Tryz.zeroValue3
 t4:=Tryz.underlying4
 a4:=Tryz.isAgg4
 z4:=Tryz.sizeOf4
 v4:=Tryz.zeroValue4
 t5:=Tryz.underlying5
 a5:=Tryz.isAgg5
 z5:=Tryz.sizeOf5
 v5:=Tryz.zeroValue5
 t9:=Tryz.underlying9
 a9:=Tryz.isAgg9
 z9:=Tryz.sizeOf9
 v9:=Tryz.zeroValue9
 t27:=Tryz.underlying349
 a27:=Tryz.isAgg349
 z27:=Tryz.sizeOf349
theorem VM (hV:Sub V W) {cs:List UInt8} (hcs:∀b∈cs,b.toNat<128) (hl:cs.length<1000):aj Tryz.prog 295 [str cs].toArray W fun v w'=>v=.tuple #[.agg (oD cs).toArray,.bool true]∧Rel W V [] V w':=by
 have h:=Any.bytes_makeASCIISet Sc (fun w=>by kernel_rfl) ab ⟨cs.toArray⟩ W (by show cs.toArray.size<_;simp;omega) (fun j b hb=>hcs b (List.mem_of_getElem? (by simpa using hb)))
 have e:Lib.setCells (⟨cs.toArray⟩:ByteArray).data.toList=(oD cs).toArray:=by
  rw [Lib.setCells_eq]
  unfold oD
  apply Array.ext'
  simp
 rw [e] at h
 exact aj.mT Tryz.func295 ab ab (Calls.iw h fun e w' ⟨he,hw⟩=>⟨_,he,rfl,by rw [hw];exact ((Rel.start hV).newObj _).pd⟩)
theorem RF (hV:Sub V W) {b:Nat} {cs:List UInt8} (hb:bD V b (oD cs) 349) (x:UInt8):aj Tryz.prog 319 [.pointer (some ⟨b,0,none⟩),bv x].toArray W fun v w'=>v=.bool (cs.contains x)∧Rel W V [] V w':=by
 have H:=Rel.start hV
 have h1:=hb.bt (VL cs x)
 have uJ:=x.toNat_lt
 refine eV Tryz.func319 10 [0,1,4] ?_
 refine wk ?_
 rw [show x.toNat=placeOf 0 ((x.toNat:Nat):Int).toNat 1 by simp [placeOf]] at h1
 refine ⟨_,H.q9 h1,?_⟩
 refine wk ?_
 exact H
theorem W9 (hV:Sub V W) {b:Nat} {cs:List UInt8} (hb:bD V b (oD cs) 349) {s:Sl} {l:List UInt8} (hs:ao V s l) (hl:l.length≤1099511627776):aj Tryz.prog 296 [s.v,.pointer (some ⟨b,0,none⟩)].toArray W fun v w'=>(∃r:Sl,v=r.v∧∀U,ao U s l→ao U r (l.dropWhile fun c=>cs.contains c))∧Rel W V [] V w':=by
 have H:=Rel.start hV
 have hlen:=hs.len
 refine eV Tryz.func296 20 [0,1,4,7,13,18] ?_
 refine wk ?_
 refine aB.cut 0 (fun r:Sl=>[(0,r.v)]) (fun r w'=>(∀U,ao U s l→ao U r (l.dropWhile fun c=>cs.contains c))∧Rel W V [] V w') ?_ ?_
 ·refine aK (S:=Sl) ad [1,4,18] (fun k=>[(0,k.v)]) (fun k w'=>(∃m,(∀U,ao U s l→ao U k m)∧m.length≤l.length∧m.dropWhile (fun c=>cs.contains c)=l.dropWhile (fun c=>cs.contains c))∧Rel W V [] V w') (fun k _=>k.len) s ?_
  conv=>whnf
  refine ⟨sB,⟨⟨l,fun _ h=>h,Nat.le_refl _,rfl⟩,H⟩,?_⟩
  clear H
  rintro r w ⟨⟨m,hr',ur,hm⟩,H⟩
  have hr:=hr' V hs
  have hrl:=hr.len
  cases m with
  | nil =>
   have gy:r.len=0:=hrl
   refine wk ?_
   refine ⟨r,sB,?_,H⟩
   rw [←hm]
   exact hr'
  | cons x m =>
   rw [List.length_cons] at hrl
   obtain ⟨p0,c0⟩:=hr.aP (g:=bv) (fun _=>rfl) (show 0<(x::m).length by simp)
   rw [List.getElem_cons_zero] at c0
   refine wk ?_
   refine (RF H.data hb x).use ?_
   rintro v w ⟨rfl,K⟩
   (replace H:=H.aq K)
   cases hx:cs.contains x with
   | false =>
    have e:(x::m).dropWhile (fun c=>cs.contains c)=x::m:=by rw [List.dropWhile_cons,if_neg (by rw [hx];decide)]
    rw [e] at hm
    refine wk ?_
    refine ⟨r,sB,?_,H.sx⟩
    rw [←hm]
    exact hr'
   | true =>
    have e:(x::m).dropWhile (fun c=>cs.contains c)=m.dropWhile (fun c=>cs.contains c):=by rw [List.dropWhile_cons,if_pos hx]
    rw [e] at hm
    refine wk ?_
    exact ⟨sB,_,sB,⟨⟨m,fun U hU=>(hr' U hU).dr (k:=1) ae,by simp at ur ⊢;omega,hm⟩,H.sx⟩,by dsimp only;omega⟩
 clear H
 rintro r w ⟨hr,H⟩
 have hrl:=(hr V hs).len
 by_cases h0:r.len=0
 ·refine wk ?_
  refine ⟨⟨⟨none,0,0⟩,rfl,fun U _=>?_⟩,H.sx⟩
  rw [List.eq_nil_of_length_eq_zero (hrl.symm.trans h0)]
  exact aw.nil _ _
 ·refine wk ?_
  exact ⟨⟨r,rfl,hr⟩,H.sx⟩
theorem Ed (hV:Sub V W) {s:Sl} {l:List UInt8} (hs:ao V s l) (hl:l.length≤1099511627776) {cs:List UInt8} (hcs:∀b∈cs,b.toNat<128) (h1:2≤cs.length) (h2:cs.length<1000):aj Tryz.prog 250 [s.v,str cs].toArray W fun v w'=>(∃r:Sl,v=r.v∧ao V r (l.dropWhile fun c=>cs.contains c))∧Rel W V [] V w':=by
 have H:=Rel.start hV
 have hlen:=hs.len
 have hsz:(ByteArray.mk cs.toArray).size=cs.length:=rfl
 refine eV Tryz.func250 36 [0,1,4,5,6,9,11,20,30] ?_
 by_cases h0:s.len=0
 ·refine wk ?_
  refine ⟨⟨⟨none,0,0⟩,rfl,?_⟩,H.sx⟩
  rw [List.eq_nil_of_length_eq_zero (hlen.symm.trans h0)]
  exact aw.nil _ _
 refine wk ?_
 refine dw (fun h=>?_) (fun _=>?_)
 ·rw [h] at h1
  simp at h1
 refine wk ?_
 refine (VM H.data hcs h2).use ?_
 rintro v w ⟨rfl,K⟩
 (replace H:=H.aq K)
 refine wk ?_
 refine H.nA ?_;clear H;intro w b5 H
 refine H.wh ?_;clear H;intro w H
 replace H:=H.cj (c':=oD cs) bo
 obtain ⟨V2,hV2,H,hb5⟩:=H.bJ
 refine wk ?_
 refine (W9 H.data hb5 (hs.up hV2) hl).use ?_
 rintro v w ⟨⟨r,rfl,hr⟩,K⟩
 (replace H:=H.aq K)
 refine wk ?_
 exact ⟨⟨r,rfl,hr V hs⟩,H.sx.less (Sub.refl _) hV2⟩
end
end
abbrev gY:=Int×Sl
abbrev jh (x:gY):List Value:=[iv x.1,x.2.v]
abbrev jK (V:World) (x:gY) (y:fU):Prop:=x.1=((y.1:Nat):Int)∧ao V x.2 y.2
theorem jK.up (V V':World) (x:gY) (y:fU) (hs:Sub V V') (h:jK V x y):jK V' x y:=⟨h.1,h.2.up hs⟩
abbrev cd (rb:Nat) (r o:Sl) (hs:List gY) (s:RS):List ak:=[.al rb [r.v,iv ((s.cnt:Nat):Int),str s.last,o.v] 303,.row o 206 2 (hs.flatMap jh)]
structure gH (N:Nat) (V:World) (r:Sl) (hs:List gY) (s:RS):Prop where
 rest:ao V r s.rest
 dt:Pw jK V hs s.dt
 cnt:s.cnt+s.rest.length≤N
 ol:s.dt.length≤s.cnt
theorem gH.up {N:Nat} {V V':World} {r:Sl} {hs:List gY} {s:RS} (h:gH N V r hs s) (k:Sub V V'):gH N V' r hs s:=⟨h.rest.up k,h.dt.up jK.up k,h.cnt,h.ol⟩
structure mf (w0 V0:World) (rb:Nat) (own:List ak) (N:Nat) (V:World) (s:RS) (E:World→Prop) (w:World):Prop where
 ex:∃(V':World) (r o:Sl) (hs:List gY),Sub V V'∧gH N V' r hs s∧E V'∧Rel w0 V0 (cd rb r o hs s++own) V' w
abbrev sU:PanicEntry:={ v:=.iface 367 (.agg #[]),recovered:=false }
structure gX (w0:World) (p:Prop) (ch:List PanicEntry) (w:World):Prop where
 why:p
 ch:ch=[sU]
 ext:Ext w0 w
theorem gX.mono {w0 w:World} {p q:Prop} {ch:List PanicEntry} (h:gX w0 p ch w) (hpq:p→q):gX w0 q ch w:=⟨hpq h.why,h.ch,h.ext⟩
theorem kV {w:World} {k:Value→World→Prop} (hk:k (.iface 367 (.agg #[])) w):aH Tryz.prog (Instr.makeInterface 367 (.agg #[])) w k:=.of ab hk
theorem E0:(fun c=>([32,9,13,10]:List UInt8).contains c)=aY:=by
 funext c
 simp [aY,List.contains_eq_any_beq,Bool.or_assoc]
def CK:List UInt8:=[97,98,99,100,101,102,103,104,105,106,107,108,109,110,111,112,113,114,115,116,117,118,119,120,121,122,48,49,50,51,52,53,54,55,56,57,45,95,46]
theorem Ti:(fun c=>CK.contains c)=iQ:=by
 funext c
 have key:∀n:Fin 256,CK.contains (UInt8.ofNat n.val)=iQ (UInt8.ofNat n.val):=ag
 have:=key ⟨c.toNat,c.toNat_lt⟩
 simpa using this
section
variable {w0 V0 V w:World} {own:List ak} {rb N:Nat} {r o:Sl} {hs:List gY} {s:RS}
theorem KB (H:Rel w0 V0 (cd rb r o hs s++own) V w) (hR:gH N V r hs s) (hN:N≤5000) (e:Bool):aj Tryz.prog 245 [.pointer (some ⟨rb,0,none⟩),.bool e].toArray w fun q w'=>q=.tuple #[]∧mf w0 V0 rb own (N+1) V (nc (if e=true then [10] else sS (af s.last)) s) (fun _=>True) w':=by
 have hlen:=hR.rest.len
 have nS:=hR.rest.cap
 have j3:=hR.cnt
 have gx:=hR.ol
 have hoth:=hR.dt.len
 obtain ⟨n,hn⟩:∃n,n=(s.rest.takeWhile aY).length:=⟨_,rfl⟩
 have rO:s.rest.length=n+(s.rest.dropWhile aY).length:=by
  conv=>lhs;rw [←List.takeWhile_append_dropWhile (p:=aY) (l:=s.rest)]
  rw [List.length_append,hn]
 have uE:s.rest.take n=s.rest.takeWhile aY:=by
  conv=>lhs;rw [←List.takeWhile_append_dropWhile (p:=aY) (l:=s.rest),hn]
  rw [List.take_left]
 have j4:s.rest.drop n=s.rest.dropWhile aY:=by
  conv=>lhs;rw [←List.takeWhile_append_dropWhile (p:=aY) (l:=s.rest),hn]
  rw [List.drop_left]
 obtain ⟨want,hw⟩:∃want:List UInt8,want=if e=true then [10] else sS (af s.last):=⟨_,rfl⟩
 rw [←hw]
 have hcut:=hR.rest.tk (k:=n) aa
 have Hz:=hR.rest.WK (k:=n) aa
 rw [uE] at hcut Hz
 simp only [cd,List.cons_append,List.nil_append] at H
 refine nE ad Tryz.func245 rfl ab 82 rfl ae [0,1,4,5,18,20,41] ?_
 refine aB.cc ad ?_
 refine wk ?_
 (first|refine dV 0 [9] [0,1,2,3,4,5,6,7,8,9,10,11,12] H ?_|refine dV 7 [17] [0,1,2,3,4,5,6,7,8,9,10,11,12,13,14,15,16,17,18,19,20,21] H ?_);clear H;intro w H
 refine wk ?_
 refine (Ed H.data hR.rest aa (cs:=[32,9,13,10]) ag ag ag).use ?_
 rintro v w ⟨⟨t,rfl,ht⟩,K⟩
 (replace H:=H.aq K)
 rw [E0] at ht
 have htl:=ht.len
 refine wk ?_
 rw [show (r.len:Int) - t.len=(n:Int) by omega]
 refine wk ?_
 refine aB.cc ad ?_
 refine wk ?_
 refine aB.lZ ad (fun _:Unit=>[(0,.pointer (some ⟨rb,0,none⟩)),(4,iv (n:Int)),(5,str want)]) (fun _ w'=>Rel w0 V0 (.al rb [r.v,iv ((s.cnt:Nat):Int),str s.last,o.v] 303::.row o 206 2 (hs.flatMap jh)::own) V w') ?_ ?_
 ·cases e with
  | true =>
   obtain rfl:want=[10]:=hw
   refine wk ?_
   exact ⟨(),sB,H⟩
  | false =>
   rw [if_neg ag] at hw
   by_cases h1:s.last=[44]
   ·obtain rfl:want=[32]:=by rw [hw,h1];rfl
    rw [h1] at H ⊢
    refine wk ?_
    exact ⟨(),sB,H⟩
   ·by_cases h2:s.last=[58]
    ·obtain rfl:want=[32]:=by rw [hw,h2];rfl
     rw [h2] at H ⊢
     refine wk ?_
     exact ⟨(),sB,H⟩
    ·obtain rfl:want=[]:=by
      rw [hw,show af s.last=false by simp [af,h1,h2]]
      rfl
     refine wk ?_
     refine Ay (decide_eq_false h1) ?_
     refine wk ?_
     refine Ay (decide_eq_false h2) ?_
     refine wk ?_
     exact ⟨(),sB,H⟩
 clear H
 rintro _ w H
 refine aB.lZ ad (fun _:Unit=>[(0,.pointer (some ⟨rb,0,none⟩)),(4,iv (n:Int))]) (fun _ w'=>∃(o':Sl) (hs':List gY),Pw jK V hs' (if s.rest.takeWhile aY=want then s.dt else s.dt++[(s.cnt,s.rest.takeWhile aY)])∧Rel w0 V0 (.al rb [r.v,iv ((s.cnt:Nat):Int),str s.last,o'.v] 303::.row o' 206 2 (hs'.flatMap jh)::own) V w') ?_ ?_
 ·refine wk ?_
  refine ⟨fm _ ▸ (hcut.up H.data).cells,?_⟩
  refine wk ?_
  refine tu (fun hne=>?_) (fun heq=>?_)
  ·refine wk ?_
   (first|refine dV 0 [9] [0,1,2,3,4,5,6,7,8,9,10,11,12] H ?_|refine dV 7 [17] [0,1,2,3,4,5,6,7,8,9,10,11,12,13,14,15,16,17,18,19,20,21] H ?_);clear H;intro w H
   refine wk ?_
   refine H.nA ?_;clear H;intro w Ye H
   refine wk ?_
   refine Rel.cy (f:=jh) (s:=o) (l:=hs) (x:=(((s.cnt:Nat):Int),(⟨aD r.a 0 n 1,n - 0,n - 0⟩:Sl))) ad rfl rfl rfl rfl rfl ag (fun _=>rfl) (by simp [Value.oneCell']) H (by show (hs.length+1)*32≤_;omega) aa ?_
   clear H
   intro o' w H
   refine H.wg ?_;clear H;intro w H
   refine ⟨(),sB,o',_,?_,H⟩
   rw [if_neg hne]
   exact hR.dt.snoc ⟨rfl,Hz⟩
  ·refine wk ?_
   refine ⟨(),sB,o,hs,?_,H⟩
   rw [if_pos heq]
   exact hR.dt
 clear H
 rintro _ w ⟨o',hs',tS,H⟩
 refine aB.go ad ?_
 refine H.wg ?_;clear H;intro _ _ w H
 have hd:=hR.rest.dr (k:=n) aa
 rw [j4] at hd
 refine ⟨V,_,o',hs',Sub.refl _,⟨hd,tS,?_,?_⟩,trivial,H⟩
 ·show s.cnt+1+(s.rest.dropWhile aY).length≤_
  omega
 ·show (if s.rest.takeWhile aY=want then s.dt else s.dt++[(s.cnt,s.rest.takeWhile aY)]).length≤s.cnt+1
  split
  ·omega
  ·rw [List.length_append,List.length_singleton];omega
theorem yM (H:Rel w0 V0 (cd rb r o hs s++own) V w) (hR:gH N V r hs s) (hN:N≤5000):aX Tryz.prog 286 [.pointer (some ⟨rb,0,none⟩)].toArray w (fun q w'=>(∃c,pk s=some c∧q=bv c)∧Rel w0 V0 (cd rb r o hs s++own) V w') (gX w0 (pk s=none)):=by
 have hlen:=hR.rest.len
 have j3:=hR.cnt
 simp only [cd,List.cons_append,List.nil_append] at H
 refine eV Tryz.func286 17 [0,2,3,11] ?_
 refine wk ?_
 refine (Ed H.data hR.rest aa (cs:=[32,9,13,10]) ag ag ag).use ?_
 rintro v w ⟨⟨t,rfl,ht⟩,K⟩
 (replace H:=H.aq K)
 rw [E0] at ht
 have htl:=ht.len
 cases hd:s.rest.dropWhile aY with
 | nil =>
  have h0:t.len=0:=by rw [htl,hd];rfl
  refine wk ?_
  refine kV ?_
  refine wk ?_
  exact ⟨by unfold pk;rw [hd];rfl,rfl,H.base⟩
 | cons c x =>
  rw [hd] at ht htl
  rw [List.length_cons] at htl
  obtain ⟨p0,c0⟩:=ht.aP (g:=bv) (fun _=>rfl) (show 0<(c::x).length by simp)
  rw [List.getElem_cons_zero] at c0
  refine wk ?_
  exact ⟨⟨c,by unfold pk;rw [hd];rfl,rfl⟩,H.sx⟩
theorem zn (H:Rel w0 V0 (cd rb r o hs s++own) V w) (hR:gH N V r hs s) (hN:N≤5000):aj Tryz.prog 245 [.pointer (some ⟨rb,0,none⟩),.bool false].toArray w fun q w'=>q=.tuple #[]∧mf w0 V0 rb own (N+1) V (ei s) (fun _=>True) w':=KB H hR hN false
theorem ON {c:UInt8} (h:c.toNat<128):Utf8.encode (wr .i32 ((c.toNat:Nat):Int))=⟨[c].toArray⟩:=by
 have key:∀n:Fin 128,Utf8.encode (wr .i32 (((UInt8.ofNat n.val).toNat:Nat):Int))=⟨[UInt8.ofNat n.val].toArray⟩:=by decide +kernel
 have:=key ⟨c.toNat,h⟩
 simpa using this
theorem yP {c:UInt8} (h:pk s=some c):∃t,s.rest.dropWhile aY=c::t∧t.length+1≤s.rest.length:=by
 unfold pk at h
 have rO:s.rest.length=(s.rest.takeWhile aY).length+(s.rest.dropWhile aY).length:=by
  conv=>lhs;rw [←List.takeWhile_append_dropWhile (p:=aY) (l:=s.rest)]
  rw [List.length_append]
 cases hd:s.rest.dropWhile aY with
 | nil=>rw [hd] at h;cases h
 | cons x t =>
  rw [hd] at h rO
  cases h
  rw [List.length_cons] at rO
  exact ⟨t,rfl,aa⟩
theorem Kz (H:Rel w0 V0 (cd rb r o hs s++own) V w) (hR:gH N V r hs s) (hN:N≤5000) {c:UInt8} (hc:c.toNat<128):aX Tryz.prog 292 [.pointer (some ⟨rb,0,none⟩),bv c].toArray w (fun q w'=>q=.tuple #[]∧∃s',gD c s=some s'∧mf w0 V0 rb own N V s' (fun _=>True) w') (gX w0 (gD c s=none)):=by
 have j3:=hR.cnt
 refine eV Tryz.func292 26 [0,1,7] ?_
 refine wk ?_
 refine aX.mono (yM H hR hN) ?_ (fun ch w' h=>h.mono fun h=>by unfold gD;rw [h];rfl)
 clear H
 rintro v w ⟨⟨x,hx,rfl⟩,H⟩
 refine wk ?_
 refine dw (fun hne=>?_) (fun heq=>?_)
 ·refine wk ?_
  refine kV ?_
  refine wk ?_
  refine ⟨?_,rfl,H.base⟩
  unfold gD
  rw [if_neg]
  intro h
  rw [hx] at h
  cases h
  exact hne rfl
 ·obtain rfl:x=c:=UInt8.toNat_inj.1 aa
  obtain ⟨t,ht,htl⟩:=yP hx
  have e:gD x s=some { ei s with last:=[x],rest:=t }:=by unfold gD;rw [if_pos hx,ht];rfl
  refine wk ?_
  refine (zn H hR hN).use ?_
  clear H
  rintro v w ⟨rfl,V1,r1,o1,hs1,hV1,dF,_,H⟩
  have hr1:=dF.rest
  rw [show (ei s).rest=x::t from ht] at hr1
  have nV:=hr1.len
  have hc1:=hr1.cap
  rw [List.length_cons] at nV
  simp only [cd,List.cons_append,List.nil_append] at H
  refine wk ?_
  refine Rel.AA ab ab ?_
  rw [ON hc]
  refine H.wg ?_;clear H;intro _ w H
  refine ⟨V1,_,o1,hs1,hV1,⟨hr1.dr (k:=1) ae,dF.dt,?_,dF.ol⟩,trivial,H⟩
  show s.cnt+1+t.length≤N
  omega
theorem vF (H:Rel w0 V0 (cd rb r o hs s++own) V w) (hR:gH N V r hs s) (hN:N≤6000):aX Tryz.prog 315 [.pointer (some ⟨rb,0,none⟩)].toArray w (fun q w'=>∃c t,s.rest=c::t∧q=bv c∧mf w0 V0 rb own N V { s with rest:=t } (fun _=>True) w') (gX w0 (s.rest=[])):=by
 have j3:=hR.cnt
 have hlen:=hR.rest.len
 have nS:=hR.rest.cap
 simp only [cd,List.cons_append,List.nil_append] at H
 refine eV Tryz.func315 27 [0,2,3,9] ?_
 cases hd:s.rest with
 | nil =>
  have h0:r.len=0:=by rw [hlen,hd];rfl
  refine wk ?_
  refine kV ?_
  refine wk ?_
  exact ⟨rfl,rfl,H.base⟩
 | cons c t =>
  have hr:=hR.rest
  rw [hd] at hr hlen
  rw [List.length_cons] at hlen
  obtain ⟨p0,c0⟩:=hr.aP (g:=bv) (fun _=>rfl) (show 0<(c::t).length by simp)
  rw [List.getElem_cons_zero] at c0
  refine H.wg ?_;clear H;intro w H
  refine ⟨c,t,rfl,rfl,V,_,o,hs,Sub.refl _,⟨hr.dr (k:=1) ae,hR.dt,?_,hR.ol⟩,trivial,H⟩
  rw [hd,List.length_cons] at j3
  show s.cnt+t.length≤N
  omega
theorem KL {W:World} (hV:Sub V W) (c:UInt8):aj Tryz.prog 299 [bv c].toArray W fun v w'=>v=.bool (kp c)∧Rel W V [] V w':=by
 have H:=Rel.start hV
 have h8:=c.toNat_lt
 refine eV Tryz.func299 9 [0,2] ?_
 by_cases h1:c.toNat<32
 ·refine wk ?_
  exact ⟨by simp [kp,h1],H⟩
 ·refine wk ?_
  refine ⟨congrArg Value.bool ?_,H⟩
  rw [Bool.eq_iff_iff]
  simp [kp]
  omega
abbrev xK:List UInt8:=[48,49,50,51,52,53,54,55,56,57,97,98,99,100,101,102]
theorem HL (c:UInt8):Lib.indexByte xK c=(match lG c with|some n=>((n:Nat):Int)|none => -1):=by
 have key:∀n:Fin 256,Lib.indexByte xK (UInt8.ofNat n.val)=(match lG (UInt8.ofNat n.val) with|some n=>((n:Nat):Int)|none => -1):=ag
 have:=key ⟨c.toNat,c.toNat_lt⟩
 simpa using this
theorem Jr {a b:Nat} (ha:a<16) (hb:b<16):wr .u8 (aV BinOp.or .i64 ((16*a:Nat):Int) ((b:Nat):Int))=(((UInt8.ofNat (16*a+b)).toNat:Nat):Int):=by
 have key:∀a b:Fin 16,wr .u8 (aV BinOp.or .i64 ((16*a.val:Nat):Int) ((b.val:Nat):Int))=(((UInt8.ofNat (16*a.val+b.val)).toNat:Nat):Int):=by decide +kernel
 exact key ⟨a,ha⟩ ⟨b,hb⟩
theorem O3 (H:Rel w0 V0 (cd rb r o hs s++own) V w) (hR:gH N V r hs s) (hN:N≤6000):aX Tryz.prog 316 [.pointer (some ⟨rb,0,none⟩)].toArray w (fun q w'=>∃d t,ri s.rest=some (d,t)∧q=bv d∧mf w0 V0 rb own N V { s with rest:=t } (fun _=>True) w') (gX w0 (ri s.rest=none)):=by
 refine eV Tryz.func316 47 [0,2,3,4,5,13,16,39] ?_
 refine wk ?_
 refine aX.mono (vF H hR hN) ?_ (fun ch w' h=>h.mono fun h=>by rw [h];rfl)
 clear H
 rintro v w ⟨c,t,pH,rfl,V1,r1,o1,hs1,hV1,dF,_,H⟩
 have BB:=c.toNat_lt
 rw [pH,Gw]
 by_cases h1:c=34∨c=92
 ·rw [if_pos h1]
  have h1':c.toNat=34∨c.toNat=92:=by rcases h1 with rfl|rfl<;>simp
  rcases h1' with h1'|h1'
  ·refine wk ?_
   exact ⟨c,t,rfl,rfl,V1,r1,o1,hs1,hV1,dF,trivial,H⟩
  ·refine wk ?_
   exact ⟨c,t,rfl,rfl,V1,r1,o1,hs1,hV1,dF,trivial,H⟩
 rw [if_neg h1]
 have G3:c.toNat≠34:=fun e=>h1 (.inl (UInt8.toNat_inj.1 e))
 have Bl:c.toNat≠92:=fun e=>h1 (.inr (UInt8.toNat_inj.1 e))
 by_cases h2:c=120
 rotate_left
 ·rw [if_pos h2]
  have Yz:c.toNat≠120:=fun e=>h2 (UInt8.toNat_inj.1 e)
  refine wk ?_
  refine kV ?_
  refine wk ?_
  exact ⟨rfl,rfl,H.base⟩
 rw [if_neg (by simpa using h2)]
 subst h2
 refine wk ?_
 refine aX.mono (vF H dF hN) ?_ (fun ch w' h=>⟨by have h:=h.why;dsimp only at h;rw [h],h.ch,h.ext⟩)
 clear H
 rintro v w ⟨x,t1,uD,rfl,V2,r2,o2,bM,hV2,cz,_,H⟩
 dsimp only at uD
 rw [uD]
 refine wk ?_
 refine (rP xK _ _).use ?_
 rintro v w ⟨rfl,rfl⟩
 refine wk ?_
 refine aX.mono (vF H cz hN) ?_ (fun ch w' h=>⟨by have h:=h.why;dsimp only at h;rw [h],h.ch,h.ext⟩)
 clear H
 rintro v w ⟨y,t2,kR,rfl,V3,r3,o3,Ch,ar,pw,_,H⟩
 dsimp only at kR
 rw [kR]
 refine wk ?_
 refine (rP xK _ _).use ?_
 rintro v w ⟨rfl,rfl⟩
 have ex:(((x.toNat:Nat):Int).toNat).toUInt8=x:=ae
 have ey:(((y.toNat:Nat):Int).toNat).toUInt8=y:=ae
 rw [ex,ey,HL,HL]
 cases ha:lG x with
 | none =>
  refine wk ?_
  refine kV ?_
  refine wk ?_
  exact ⟨by simp only [ha],rfl,H.base⟩
 | some a =>
  cases hb:lG y with
  | none =>
   refine wk ?_
   refine kV ?_
   refine wk ?_
   exact ⟨by simp only [ha,hb],rfl,H.base⟩
  | some b =>
   obtain ⟨a1,_⟩:=xI ha
   obtain ⟨b1,_⟩:=xI hb
   have e4:((a:Nat):Int)*2 ^ min (Int.toNat 4) IntKind.i64.bits=((16*a:Nat):Int):=by
    have:min (Int.toNat 4) IntKind.i64.bits=4:=ag
    rw [this]
    omega
   dsimp only
   refine wk ?_
   rw [e4]
   refine wk ?_
   rw [Jr a1 b1]
   refine (KL H.data (UInt8.ofNat (16*a+b))).use ?_
   rintro v w ⟨rfl,K⟩
   (replace H:=H.aq K)
   cases hsp:kp (UInt8.ofNat (16*a+b)) with
   | false =>
    refine wk ?_
    refine kV ?_
    refine wk ?_
    exact ⟨by simp only [ha,hb,hsp];rfl,rfl,H.base⟩
   | true =>
    refine wk ?_
    rw [e4]
    refine wk ?_
    rw [Jr a1 b1]
    exact ⟨_,t2,by simp only [ha,hb,hsp];rfl,rfl,V3,r3,o3,Ch,(hV1.trans hV2).trans ar,pw,trivial,H⟩
theorem Rel.sA {a b c:ak} (H:Rel w0 V0 (a::b::c::own) V w):Rel w0 V0 (b::c::a::own) V w:=H.perm ((List.Perm.swap b a _).trans (List.Perm.cons b (List.Perm.swap c a _)))
theorem Rel.Ea {a b c:ak} (H:Rel w0 V0 (b::c::a::own) V w):Rel w0 V0 (a::b::c::own) V w:=H.perm ((List.Perm.cons b (List.Perm.swap a c _)).trans (List.Perm.swap a b _))
theorem WJ (H:Rel w0 V0 (cd rb r o hs s++own) V w) (hR:gH N V r hs s) (hN:N≤5000) (hp:pk s=some 34):aX Tryz.prog 287 [.pointer (some ⟨rb,0,none⟩)].toArray w (fun q w'=>∃b s' p,nk s=some (b,s')∧q=Sl.v p∧mf w0 V0 rb own N V s' (fun U=>ao U p b) w') (gX w0 (nk s=none)):=by
 have j3:=hR.cnt
 obtain ⟨t0,ht0,htl⟩:=yP hp
 refine eV Tryz.func287 29 [0,2,3,4,11,15,20] ?_
 refine wk ?_
 refine (zn H hR hN).use ?_
 clear H
 rintro v w ⟨rfl,V1,r1,o1,hs1,hV1,dF,_,H⟩
 refine wk ?_
 refine aX.mono (vF H dF aa) ?_ (fun ch w' h=>by
  have:=h.why
  rw [show (ei s).rest=34::t0 from ht0] at this
  cases this)
 clear H
 rintro v w ⟨c,t,pH,rfl,V2,r2,o2,bM,hV2,cz,_,H⟩
 rw [show (ei s).rest=34::t0 from ht0] at pH
 cases pH
 obtain ⟨s1,Cg⟩:∃s1,s1=ei s:=⟨_,rfl⟩
 rw [←Cg] at cz H
 obtain ⟨full,cU⟩:∃full,full=gF ((34::t0).length+1) t0:=⟨_,rfl⟩
 have mA:=hV1.trans hV2
 replace H:=(H.bw 5 1).sA
 refine wk ?_
 refine aK (S:=Sl×List UInt8) ad [0] (fun k=>[(3,k.1.v)]) (fun k w'=>∃out V' r o hs n,Sub V V'∧gH (N+1) V' r hs { s1 with rest:=k.2 }∧full=(gF n k.2).map (fun p=>(out++p.1,p.2))∧k.2.length<n∧out.length+k.2.length≤t0.length∧Rel w0 V0 (cd rb r o hs { s1 with rest:=k.2 }++(.row k.1 5 1 (out.flatMap ay)::own)) V' w') (fun k _=>k.2.length) (⟨none,0,0⟩,t0) ?_
 conv=>whnf
 refine ⟨sB,⟨[],V2,r2,o2,bM,(34::t0).length+1,mA,cz,?_,?_,?_,H⟩,?_⟩
 ·show full=(gF ((34::t0).length+1) t0).map fun p=>([]++p.1,p.2)
  rw [cU]
  cases gF ((34::t0).length+1) t0<;>rfl
 ·show t0.length<_
  rw [List.length_cons];omega
 ·show 0+t0.length≤t0.length
  omega
 clear H
 rintro ⟨q,x⟩ w ⟨out,V3,r3,o3,Ch,n,ar,pw,hf,Iu,gx,H⟩
 dsimp only at pw hf Iu gx H
 have e:nk s=full.map fun p=>(p.1,{ s1 with rest:=p.2 }):=by
  unfold nk
  rw [ht0,List.tail_cons,←cU,Cg]
  cases full<;>rfl
 have CO:gF n x=none→nk s=none:=fun h=>by rw [e,hf,h];rfl
 cases n with
 | zero=>omega
 | succ n =>
 refine wk ?_
 refine aX.mono (vF H pw aa) ?_ (fun ch w' h=>h.mono fun h=>CO (by dsimp only at h;rw [h];rfl))
 clear H
 rintro v w ⟨c,t,pH,rfl,V4,r4,o4,Ih,av,rD,_,H⟩
 dsimp only at pH rD H
 subst pH
 rw [List.length_cons] at Iu gx
 have BB:=c.toNat_lt
 by_cases dh:c=34
 ·subst dh
  refine wk ?_
  replace H:=H.Ea
  obtain ⟨V5,aF,H,hq⟩:=H.aJ (fun _=>rfl) ag
  refine ⟨out,{ s1 with rest:=t },q,?_,rfl,V5,r4,o4,Ih,(ar.trans av).trans aF,?_,hq,H⟩
  ·rw [e,hf,gF,if_pos rfl]
   simp
  ·refine ⟨rD.rest.up aF,rD.dt.up jK.up aF,?_,rD.ol⟩
   show s1.cnt+t.length≤N
   rw [Cg,show (ei s).cnt=s.cnt+1 from rfl]
   omega
 have YB:c.toNat≠34:=fun e=>dh (UInt8.toNat_inj.1 e)
 refine wk ?_
 refine (KL H.data c).use ?_
 rintro v w ⟨rfl,K⟩
 (replace H:=H.aq K)
 cases hsp:kp c with
 | true =>
  refine wk ?_
  refine kV ?_
  refine wk ?_
  exact ⟨CO (by rw [gF,if_neg dh,if_pos hsp]),rfl,H.base⟩
 | false =>
  by_cases pv:c=92
  ·subst pv
   refine wk ?_
   refine aX.mono (O3 H rD aa) ?_ (fun ch w' h=>h.mono fun h=>CO (by dsimp only at h;rw [gF,if_neg dh,if_neg (by rw [hsp];decide),if_pos rfl,h]))
   clear H
   rintro v w ⟨d,t',hd,rfl,V5,r5,o5,Rj,aF,Hm,_,H⟩
   dsimp only at hd Hm H
   have hlt:=(Gx hd).2
   refine wk ?_
   refine H.nA ?_;clear H;intro w M0 H
   refine wk ?_
   refine Rel.tf (f:=ay) (s:=q) (l:=out) (x:=d) ad rfl rfl rfl rfl rfl ag (fun _=>rfl) (by simp [Value.oneCell']) H (by show (out.length+1)*1≤_;omega) aa ?_
   clear H
   intro q' w H
   refine wk ?_
   refine ⟨sB,(q',t'),sB,⟨out++[d],V5,r5,o5,Rj,n,(ar.trans av).trans aF,Hm,?_,?_,?_,H⟩,?_⟩
   ·rw [hf,gF,if_neg dh,if_neg (by rw [hsp];decide),if_pos rfl,hd]
    dsimp only
    rw [Option.map_map]
    congr 1
    funext p
    simp
   ·show t'.length<n
    omega
   ·show (out++[d]).length+t'.length≤t0.length
    rw [List.length_append,List.length_singleton]
    omega
   ·show t'.length<(92::t).length
    rw [List.length_cons];omega
  ·have YF:c.toNat≠92:=fun e=>pv (UInt8.toNat_inj.1 e)
   refine wk ?_
   refine H.nA ?_;clear H;intro w M0 H
   refine wk ?_
   refine Rel.tf (f:=ay) (s:=q) (l:=out) (x:=c) ad rfl rfl rfl rfl rfl ag (fun _=>rfl) (by simp [Value.oneCell']) H (by show (out.length+1)*1≤_;omega) aa ?_
   clear H
   intro q' w H
   refine wk ?_
   refine ⟨sB,(q',t),sB,⟨out++[c],V4,r4,o4,Ih,n,ar.trans av,rD,?_,?_,?_,H⟩,?_⟩
   ·rw [hf,gF,if_neg dh,if_neg (by rw [hsp];decide),if_neg pv]
    rw [Option.map_map]
    congr 1
    funext p
    simp
   ·show t.length<n
    omega
   ·show (out++[c]).length+t.length≤t0.length
    rw [List.length_append,List.length_singleton]
    omega
   ·show t.length<(c::t).length
    rw [List.length_cons];omega
theorem Te (H:Rel w0 V0 (cd rb r o hs s++own) V w) (hR:gH N V r hs s) (hN:N≤5000):aX Tryz.prog 291 [.pointer (some ⟨rb,0,none⟩)].toArray w (fun q w'=>∃x s',lP s=some (x,s')∧q=str x∧mf w0 V0 rb own N V s' (fun _=>True) w') (gX w0 (lP s=none)):=by
 have j3:=hR.cnt
 refine eV Tryz.func291 43 [0,2,3,4,30] ?_
 refine wk ?_
 refine aX.mono (yM H hR hN) ?_ (fun ch w' h=>h.mono fun h=>by unfold lP;rw [if_pos h])
 clear H
 rintro v w ⟨⟨c,hc,rfl⟩,H⟩
 obtain ⟨t0,ht0,htl⟩:=yP hc
 refine wk ?_
 refine (zn H hR hN).use ?_
 clear H
 rintro v w ⟨rfl,V1,r1,o1,hs1,hV1,dF,_,H⟩
 have hr1:=dF.rest
 rw [show (ei s).rest=s.rest.dropWhile aY from rfl] at hr1
 obtain ⟨l,hl⟩:∃l,l=s.rest.dropWhile aY:=⟨_,rfl⟩
 rw [←hl] at hr1
 have nV:=hr1.len
 have hc1:=hr1.cap
 have hll:l.length≤5000:=by rw [hl,ht0,List.length_cons];omega
 obtain ⟨x,hx⟩:∃x,x=l.takeWhile iQ:=⟨_,rfl⟩
 have rO:l.length=x.length+(l.dropWhile iQ).length:=by
  conv=>lhs;rw [←List.takeWhile_append_dropWhile (p:=iQ) (l:=l)]
  rw [List.length_append,hx]
 have uE:l.take x.length=x:=by
  conv=>lhs;rw [←List.takeWhile_append_dropWhile (p:=iQ) (l:=l),←hx]
  rw [List.take_left]
 have j4:l.drop x.length=l.dropWhile iQ:=by
  conv=>lhs;rw [←List.takeWhile_append_dropWhile (p:=iQ) (l:=l),←hx]
  rw [List.drop_left]
 have hcut:=hr1.tk (k:=x.length) aa
 rw [uE] at hcut
 simp only [cd,List.cons_append,List.nil_append] at H
 refine wk ?_
 refine dV 3 [9] [0,1,2,3,4,5,6,7,8,9,10,11,12] H ?_;clear H;intro w H
 refine wk ?_
 refine (Ed H.data hr1 aa (cs:=CK) ag ag ag).use ?_
 rintro v w ⟨⟨t,rfl,ht⟩,K⟩
 (replace H:=H.aq K)
 rw [Ti] at ht
 have htl:=ht.len
 refine wk ?_
 rw [show (r1.len:Int) - t.len=(x.length:Int) by omega]
 refine wk ?_
 refine ⟨x,aa,fm _ ▸ (hcut.up H.data).cells,?_⟩
 refine wk ?_
 refine (I9 H.data x).use ?_
 rintro v w ⟨rfl,K⟩
 (replace H:=H.aq K)
 have e:lP s=if dp x=true then some (x,{ ei s with rest:=l.dropWhile iQ }) else none:=by
  unfold lP
  rw [if_neg (by rw [hc];simp),←hl,←hx]
 cases mK:dp x with
 | false =>
  rw [mK,if_neg ag] at e
  refine wk ?_
  refine kV ?_
  refine wk ?_
  exact ⟨e,rfl,H.base⟩
 | true =>
  rw [mK,if_pos rfl] at e
  have hd:=hr1.dr (k:=x.length) aa
  rw [j4] at hd
  have cL:1≤x.length:=by
   obtain ⟨c,y,hy,_⟩:=CJ mK
   rw [hy,List.length_cons]
   omega
  have mI:l.length=t0.length+1:=by rw [hl,ht0,List.length_cons]
  refine H.wg ?_;clear H;intro w H
  refine ⟨x,_,e,rfl,V1,_,o1,hs1,hV1,⟨hd,dF.dt,?_,dF.ol⟩,trivial,H⟩
  show s.cnt+1+(l.dropWhile iQ).length≤N
  omega
end
end Go.Proofs.YtmoiobegbpkkbaaGreatDoor
