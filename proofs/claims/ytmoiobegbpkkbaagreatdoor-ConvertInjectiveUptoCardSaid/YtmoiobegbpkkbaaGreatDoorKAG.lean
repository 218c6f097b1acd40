import Derived.Test.YtmoiobegbpkkbaaGreatDoorKAF
namespace Go.Proofs.YtmoiobegbpkkbaaGreatDoor
open Go Go.RowKit
set_option maxRecDepth 100000
set_option maxHeartbeats 8000000
theorem TX (v:Int) {a b:Int} (ha:a=v%256) (hb:b=v / 256%256):[Value.int .u8 a,Value.int .u8 b]=(eE true (iA true v)).flatMap ay:=by
 have e1:a=(((v%65536).toNat%256:Nat):Int):=aa
 have e2:b=(((v%65536).toNat / 256:Nat):Int):=aa
 rw [e1,e2]
 simp only [eE,iA,if_true,List.flatMap_cons,List.flatMap_nil,ay,bv,List.cons_append,List.nil_append]
 rw [bW aa,bW aa]
theorem VX (l:List Int) (x:Int):gh (l++[x])=gh l++eE true (iA true x):=by simp [gh]
theorem Wc (d:List UInt8) (coding ch:Nat):(fA d coding ch).length≤d.length:=by
 unfold fA
 rw [List.length_map,sL,qk]
 split<;>omega
theorem KJ {b:List UInt8} {x:nv} (hbl:b.length≤1099511627776) (h:ko b=some x):x.fy.length≤b.length∧x.notes.length≤b.length∧x.coding<4∧(1≤x.ch∧x.ch≤2)∧x.rate≤65535∧(∀y∈x.fy, -32768≤y∧y≤32767)∧∀n∈x.notes,bI n.1∧n.2.2.length≤65535:=by
 obtain ⟨cs,f,d,S⟩:=DS h
 have hb:=congrArg List.length S.bytes
 have cS:=Ba cs
 have j3:=yv S.two
 have hd:=F3 (c:=(68,d)) (by rw [S.two];simp)
 have hv:=Wc d (at8 f 3) (at8 f 2)
 have b0:at8 f 0<256:=UInt8.toNat_lt _
 have b1:at8 f 1<256:=UInt8.toNat_lt _
 simp only [List.length_append,List.length_cons,List.length_nil] at hb
 dsimp only at hd
 obtain ⟨g1,g2,g3,g4⟩:=S.xh
 rw [S.eq]
 refine ⟨by show (fA d (at8 f 3) (at8 f 2)).length≤_;omega,by show (dq 0 cs).length≤_;omega,g3,g2,by show 256*at8 f 0+at8 f 1≤_;omega,fun y hy=>KI y hy,fun n hn=>?_⟩
 obtain ⟨q1,q2,q3,q4⟩:=rX cs 0 n hn
 have:=(S.ok _ q3).2.2
 exact ⟨⟨aa,aa⟩,aa⟩
theorem V9 {V:World} {bn bp:Nat} {rate ch:Int} {r:Sl} {b:List UInt8} (h1:Cells V (some ⟨bn,0,none⟩) [str vr,str vo,str vt]) (h2:Cells V (some ⟨bp,0,none⟩) (br (gz rate)++(br (gz ch)++br (eU r)))) (h3:ao V r b) :
  bc V ⟨4,0,⟨none,0,0⟩,⟨some ⟨bn,0,none⟩,3,3⟩,⟨some ⟨bp,0,none⟩,3,3⟩⟩ (l4 rate ch b):=by
 refine Et (hs:=[gz rate,gz ch,eU r]) ⟨rfl,Nat.le_refl _,h1⟩ ⟨rfl,Nat.le_refl _,h2⟩ rfl fun i x p hx hp=>?_
 match i,hx,hp with
 | 0,hx,hp=>cases hx;cases hp;exact sO _ _
 | 1,hx,hp=>cases hx;cases hp;exact sO _ _
 | 2,hx,hp=>cases hx;cases hp;exact qB h3
 | k+3,hx,hp=>simp at hx
theorem LM {rate ch:Int} {b:List UInt8} (h1:bI rate) (h2:bI ch) (h3:b.length≤1048576):VB 1048576 (l4 rate ch b):=by
 refine .mk (fL 4) (fL 0) (Nat.zero_le _) (by show 3≤1048576;decide) (fun s hs=>?_) (by show 3≤1048576;decide) fun p hp=>?_
 ·simp only [ah.names,List.mem_cons,List.not_mem_nil,or_false] at hs
  rcases hs with rfl|rfl|rfl<;>decide
 ·simp only [ah.parts,List.mem_cons,List.not_mem_nil,or_false] at hp
  rcases hp with rfl|rfl|rfl
  ·exact sQ h1
  ·exact sQ h2
  ·exact qC h3
section
variable {V W:World}
theorem Tt (hV:Sub V W) (n:Int):aj Tryz.prog 145 [iv n].toArray W fun q w'=>q=fG (gz n)∧Rel W V [] V w':=by
 have H:=Rel.start hV
 refine eV Tryz.func145 5 [0,2] ?_
 refine wk ?_
 refine H.nA ?_;clear H;intro w b2 H
 refine H.wg ?_;clear H;intro w H
 exact H.sx
theorem WU (hV:Sub V W) {s:Sl} {l:List UInt8} (hs:ao V s l) (hl:l.length≤1099511627776):aj Tryz.prog 61 [s.v].toArray W (gZ W V (aU (eo l) l.length)):=by
 have H:=Rel.start hV
 have hlen:=hs.len
 refine eV Tryz.func61 71 [0,2,3,4,5,6,7,9,10,11,14,23,27,28,29,30,60] ?_
 refine wk ?_
 refine H.nA ?_;clear H;intro w b2 H
 refine wk ?_
 refine H.nA ?_;clear H;intro w b4 H
 by_cases bR:1000<l.length
 ·have e:aU (eo l) l.length=⟨zeroV,[],3, -1⟩:=by unfold aU;rw [if_pos bR]
  rw [e]
  refine wk ?_
  refine (A2 H.data 3 (-1)).use ?_
  rintro v w ⟨rfl,K⟩
  (replace H:=H.aq K)
  refine H.wg ?_;clear H;intro _ w H
  exact ⟨V,cw,⟨none,0,0⟩,Sub.refl _,H.sx,rfl,gG _,aw.nil _ _⟩
 refine wk ?_
 refine (UK H.data hs aa).use ?_
 rintro v w ⟨V2,rs,rn,hV2,K,hres⟩
 (replace H:=H.aq K)
 cases hf:ko l with
 | none =>
  rw [hf] at hres
  dsimp only at hres
  subst hres
  have e:aU (eo l) l.length=⟨zeroV,[],21, -1⟩:=by unfold aU;rw [if_neg bR,eo,hf]
  rw [e]
  refine wk ?_
  refine H.nA ?_;clear H;intro w b5 H
  refine H.wg ?_;clear H;intro w H
  refine (A2 H.data 21 (-1)).use ?_
  rintro v w ⟨rfl,K⟩
  (replace H:=H.aq K)
  refine H.wg ?_;clear H;intro _ w H
  exact ⟨V2,cw,⟨none,0,0⟩,hV2,H.sx,rfl,gG _,aw.nil _ _⟩
 | some x =>
  rw [hf] at hres
  obtain ⟨rfl,pY,hnt⟩:=hres
  obtain ⟨m1,m2,m3,m4,m5,m6,m7⟩:=KJ hl hf
  have j8:=pY.len
  have e:eo l=qu x:=by rw [eo,hf]
  rw [e]
  refine wk ?_
  refine H.nA ?_;clear H;intro w b5 H
  refine H.wg ?_;clear H;intro w H
  replace H:=H.bw 5 1
  refine aK (S:=Nat×Sl) ad [0,2,3,4,5,6,10,11,14,23,27,28,60] (fun k=>[(7,k.2.v),(29,iv k.1)]) (fun k w'=>k.1≤x.fy.length∧Rel W V [.row k.2 5 1 ((gh (x.fy.take k.1)).flatMap ay),.al b5 (ry x.rate x.ch x.coding rs rn) 174,.al b4 [iv 0,iv 0] 31,.al b2 (br cw) 27] V2 w') (fun k _=>x.fy.length - k.1) (0,⟨none,0,0⟩) ?_
  conv=>whnf
  refine ⟨sB,⟨aa,H.sx⟩,?_⟩
  clear H
  rintro ⟨k,r⟩ w ⟨hk,H⟩
  dsimp only at hk H
  have hpl:=zo (x.fy.take k)
  rw [List.length_take] at hpl
  by_cases hlt:k<x.fy.length
  ·obtain ⟨p0,d0⟩:=pY.aP (g:=iv) (fun _=>rfl) hlt
   have t1:=KK hlt
   have hy:=m6 _ (List.getElem_mem hlt)
   generalize x.fy[k]=y at d0 t1 hy
   refine H.wg ?_;clear H;intro _ w H
   rw [k9]
   refine wk ?_
   replace H:=H.cj (TX y rfl rfl)
   replace H:=H.gj (n:=2) (e:=5) (sz:=1) rfl (by simp [maxLen])
   refine Rel.cQ H (i:=0) rfl (by simp [eE];omega) ?_
   clear H
   intro r2 w H
   rw [←VX,←t1] at H
   refine wk ?_
   exact ⟨sB,(k+1,r2),sB,⟨by dsimp only;omega,H.sx⟩,by dsimp only;omega⟩
  rw [List.take_of_length_le aa] at H
  obtain ⟨V3,ar,H,hr⟩:=Rel.aJ H (fun _=>rfl) ag
  refine wk ?_
  refine aB.wQ (fun q:Nat×Nat×Nat=>[(2,.pointer (some ⟨b2,0,none⟩)),(3,.slice none 0 0),(4,.pointer (some ⟨b4,0,none⟩)),(5,.pointer (some ⟨b5,0,none⟩)),(11,.pointer (some ⟨q.1,0,none⟩))])
   (fun q w'=>Rel W V [.al q.2.1 [str vr,str vo,str vt] 9,.al q.2.2 (br (gz x.rate)++(br (gz x.ch)++br (eU r))) 27,.al q.1 [iv 4,iv 0,.slice none 0 0,.slice (some ⟨q.2.1,0,none⟩) 3 3,.slice (some ⟨q.2.2,0,none⟩) 3 3] 27,.al b5 (ry x.rate x.ch x.coding rs rn) 174,.al b4 [iv 0,iv 0] 31,.al b2 (br cw) 27] V3 w') ?_ ?_
  ·(first|refine Gf (id:=13) ad mixed [0,5,15] [1,2,3,4,6,7,8,9,11,12,0,5,10,13,14,15,16] [(0,[]),(5,[]),(10,[5]),(13,[5,10]),(15,[]),(16,[0,5,10,13,15])] ab ?_);intro w aG;replace H:=Rel.ext H aG.ext
   repeat' ((first|(refine H.sT ?_;clear H;intros;rename_i w H;constructor)|refine wk ?_);first|refine And.intro ?_ ?_|(refine H.nA ?_;clear H;intro w _ H)|(refine (Tt H.data _).use ?_;rintro v w ⟨rfl,K⟩;(replace H:=H.aq K)))
   all_goals
    refine H.wg ?_;clear H;intro w H
    exact ⟨(_,_,_),sB,H.pick⟩
  clear H
  rintro ⟨Ae,bn,bp⟩ w H
  dsimp only at H
  obtain ⟨V4,av,H,hbn⟩:=H.bJ
  obtain ⟨V5,aF,H,Qe⟩:=H.bJ
  have Zb:=zo x.fy
  have hv:=V9 (hbn.cells.sG aF) Qe.cells ((hr.up av).up aF)
  have hB:VB 1048576 (l4 x.rate x.ch (gh x.fy)):=LM (by constructor<;>omega) (by constructor<;>omega) aa
  refine wk ?_
  refine (sP H.data hv hB).use ?_
  rintro q w ⟨rfl,K⟩
  (replace H:=H.aq K)
  by_cases cK:(bC (l4 x.rate x.ch (gh x.fy))).1=0
  rotate_left
  ·have e:aU (qu x) l.length=⟨zeroV,[],21, -1⟩:=by unfold aU;rw [if_neg bR,qu,if_pos cK]
   rw [e]
   refine wk ?_
   refine (A2 H.data 21 (-1)).use ?_
   rintro v w ⟨rfl,K⟩
   (replace H:=H.aq K)
   refine H.wg ?_;clear H;intro _ w H
   exact ⟨V5,cw,⟨none,0,0⟩,((hV2.trans ar).trans av).trans aF,H.sx,rfl,gG _,aw.nil _ _⟩
  have e:aU (qu x) l.length=⟨l4 x.rate x.ch (gh x.fy),iy x.coding x.notes,0,0⟩:=by unfold aU;rw [if_neg bR,qu,if_neg (fun h=>h cK)]
  rw [e,sR cK]
  refine wk ?_
  refine dV 16 [6] [0,1,2,3,4,5,7,6,8,9,10] H ?_;clear H;intro w H
  refine wk ?_
  refine (U2 H.data m3 (((hnt.up ar).up av).up aF) aa m7).use ?_
  rintro v w ⟨r2,rfl,K⟩
  (replace H:=Rel.call H K)
  simp only [List.cons_append,List.nil_append] at H
  refine H.wg ?_;clear H;intro _ w H
  obtain ⟨V6,bL,H,hr2⟩:=Rel.aJ H (fun _=>rfl) ag
  exact ⟨V6,_,r2,(((hV2.trans ar).trans av).trans aF).trans bL,H.sx,rfl,hv.up bL,hr2⟩
end
def EX (cs:List a8):Prop:=∃c∈cs,1000<c.2.length
instance (cs:List a8):Decidable (EX cs):=by unfold EX;infer_instance
abbrev Vu:List UInt8:=[99,111,100,105,110,103]
abbrev Vv:List UInt8:=[111,116,104,101,114,32,99,104,117,110,107,115]
def uQ (c:Nat) (ns:List dC):List jN:=(if c≠1 then [(Vu,(c:Int))] else [])++(if ns≠[] then [(Vv,(ns.length:Int))] else [])
def KF (b:List UInt8):Option (List jN):=match vA b with
 | none=>none
 | some (c,ns)=>some (uQ c ns)
theorem Um (n:Int):ax n≠[]:=fun h=>by
 have:=kh (zz n)
 unfold ax at h
 rw [h] at this
 simp at this
theorem VZ {c:Nat} {ns:List dC}:iy c ns=[]↔c=1∧ns=[]:=by
 unfold iy
 split
 ·rename_i h
  exact ⟨fun _=>h,fun _=>rfl⟩
 ·rename_i h
  exact ⟨fun h2=>absurd (List.append_eq_nil_iff.1 h2).1 (Um _),fun h2=>absurd h2 h⟩
theorem Sq {c:Nat} {ns:List dC}:uQ c ns=[]↔c=1∧ns=[]:=by
 unfold uQ
 constructor
 ·intro h
  obtain ⟨h1,h2⟩:=List.append_eq_nil_iff.1 h
  refine ⟨Decidable.byContradiction fun hc=>?_,Decidable.byContradiction fun hn=>?_⟩
  ·rw [if_pos hc] at h1
   cases h1
  ·rw [if_pos hn] at h2
   cases h2
 ·rintro ⟨rfl,rfl⟩
  rfl
theorem Wf {b:List UInt8} {v:ah} {r:List UInt8} (hl:b.length≤1000) (h:eo b=some (v,r)):VB 1048576 v∧(bC v).1=0∧(sE v).isSome=true∧vz v r=some b∧r.length≤100000000∧∃ls,KF r=some ls∧ls.length≤2∧(ls=[]↔r=[]):=by
 have cr:=We hl h
 obtain ⟨x,hx,p5,hv,hr⟩:=DU h
 obtain ⟨x',p6,aL,_⟩:=KH hl h
 rw [hx] at p6
 cases p6
 obtain ⟨m1,m2,m3,m4,m5,m6,m7⟩:=KJ aa hx
 refine ⟨?_,p5,?_,cr,?_,uQ x.coding x.notes,?_,?_,?_⟩
 ·rw [hv]
  exact LM (by constructor<;>omega) (by constructor<;>omega) (by rw [zo];omega)
 ·cases hs:sE v with
  | none=>unfold vz at cr;rw [hs] at cr;cases cr
  | some y=>rfl
 ·rw [hr]
  unfold iy
  split
  ·simp
  ·have a1:=cD (n:=(x.coding:Int)) aa aa
   have a2:=ov (f:=cV) (m:=65600) (l:=x.notes) aa fun y hy=>by
    obtain ⟨⟨q1,q2⟩,q3⟩:=m7 y hy
    have h1:=cD q1 q2
    have h2:=qj (b:=y.2.2) aa
    simp only [cV,List.length_append,List.length_cons]
    omega
   have a3:=Nat.mul_le_mul_right 65600 (show x.notes.length≤1000 by omega)
   rw [List.length_append]
   omega
 ·rw [KF,aL]
 ·unfold uQ
  split<;>split<;>simp
 ·rw [hr,Sq,VZ]
theorem XL {v:ah} (h:(bC v).1=0):ee v=0∧∀p∈v.parts,ee p=0:=by
 unfold bC at h
 split at h
 ·rename_i e he
  exact absurd h (DL he)
 ·rename_i m he
  have key:∀ {d n m:Nat} {v:ah},eH d v n=.ok m→ee v=0:=by
   intro d n m v h
   rw [Ap] at h
   split at h
   ·cases h
   ·rename_i h0
    have h0:=Decidable.not_not.1 h0
    unfold hY at h0
    split at h0
    ·cases h0
    ·exact h0
  refine ⟨key he,fun p hp=>?_⟩
  obtain ⟨_,_,_,_,_,_,_,h8⟩:=Aq he
  obtain ⟨a,b,h9⟩:=wF h8 p hp
  exact key h9
theorem XK {x:ah} (hx:ee x=0) (h1:x.kind=2):x=.mk 2 0 x.bytes [] []:=by
 obtain ⟨_,hf,_⟩:=uX hx
 unfold ij at hf
 exact ah.ext h1 (by show x.num=0;omega) rfl (List.eq_nil_of_length_eq_zero aa) (List.eq_nil_of_length_eq_zero aa)
def allM {α β:Type} (g:α→Option β):List α→Option (List β)
 | []=>some []
 | x::l=>match g x,allM g l with
  | some y,some ys=>some (y::ys)
  | _,_=>none
theorem te {α β:Type} {g:α→Option β}:∀ {l:List α} {ys:List β},allM g l=some ys→ys.length=l.length∧∀(i:Nat) (x:α) (y:β),l[i]?=some x→ys[i]?=some y→g x=some y
 | [],ys,h=>by cases h;exact ⟨rfl,fun i x y h=>by simp at h⟩
 | a::l,ys,h=>by
  unfold allM at h
  split at h
  ·rename_i y ZC h1 h2
   cases h
   obtain ⟨k1,k2⟩:=te h2
   refine ⟨by simp [k1],fun i x z hx hz=>?_⟩
   cases i with
   | zero=>simp at hx hz;subst hx hz;exact h1
   | succ i=>simp at hx hz;exact k2 i x z hx hz
  ·cases h
theorem qU {α β:Type} {g:α→Option β}:∀ {l:List α} {ys:List β},ys.length=l.length→(∀(i:Nat) (x:α) (y:β),l[i]?=some x→ys[i]?=some y→g x=some y)→allM g l=some ys
 | [],[],_,_=>rfl
 | [],_::_,h,_=>by simp at h
 | _::_,[],h,_=>by simp at h
 | a::l,y::ys,hl,h=>by
  have h0:=h 0 a y rfl rfl
  have hr:=qU (l:=l) (ys:=ys) (by simpa using hl) fun i x z hx hz=>h (i+1) x z (by simpa using hx) (by simpa using hz)
  unfold allM
  rw [h0,hr]
theorem EM {α β:Type} {g:α→Option β}:∀ {l:List α} {x:α},x∈l→g x=none→allM g l=none
 | a::l,x,hx,h=>by
  unfold allM
  rcases List.mem_cons.1 hx with rfl|hx
  ·rw [h]
  ·rw [EM hx h]
   cases g a<;>rfl
theorem MD {α β:Type} {g:α→Option β} {l:List α} {ys:List β} {x:α} {y:β} (h:allM g l=some ys) (hx:g x=some y):allM g (l++[x])=some (ys++[y]):=by
 obtain ⟨h1,h2⟩:=te h
 refine qU (by simp [h1]) fun i a b ha hb=>?_
 rcases Nat.lt_trichotomy i l.length with hi|hi|hi
 ·rw [List.getElem?_append_left hi] at ha
  rw [List.getElem?_append_left aa] at hb
  exact h2 i a b ha hb
 ·subst hi
  rw [List.getElem?_append_right (Nat.le_refl _)] at ha
  rw [List.getElem?_append_right aa,h1] at hb
  simp at ha hb
  rw [←ha,←hb,hx]
 ·rw [List.getElem?_eq_none (by simp;omega)] at ha
  cases ha
def cG {α:Type} (s h:Nat) (l:List α):List (List α):=(List.range h).map fun y=>(l.drop (y*s)).take s
theorem mZ {α:Type} (s h:Nat) (l:List α):(cG s h l).length=h:=by simp [cG]
theorem Kg {α:Type} {s h:Nat} {l:List α} {y:Nat} (hy:y<h):(cG s h l)[y]?=some ((l.drop (y*s)).take s):=by
 simp [cG,List.getElem?_map,List.getElem?_range hy]
theorem DF {α:Type} {s h:Nat} {l:List α} (hl:l.length=h*s) {r:List α} (hr:r∈cG s h l):r.length=s:=by
 obtain ⟨y,hy,rfl⟩:=List.mem_map.1 hr
 have hy:=List.mem_range.1 hy
 have:(y+1)*s≤h*s:=Nat.mul_le_mul_right s hy
 rw [Nat.add_mul] at this
 rw [List.length_take,List.length_drop]
 omega
theorem DE {α:Type} {s:Nat}:∀ {h:Nat} {l:List α},l.length=h*s→(cG s h l).flatten=l
 | 0,l,hl=>by rw [List.eq_nil_of_length_eq_zero (l:=l) aa];rfl
 | h+1,l,hl=>by
  have e:cG s (h+1) l=l.take s::cG s h (l.drop s):=by
   unfold cG
   rw [List.range_succ_eq_map,List.map_cons,List.map_map]
   congr 1
   ·simp
   ·refine List.map_congr_left fun y _=>?_
    simp only [Function.comp,List.drop_drop]
    congr 2
    rw [Nat.succ_mul];omega
  rw [e,List.flatten_cons,DE (by rw [List.length_drop,hl,Nat.add_mul];omega),List.take_append_drop]
theorem xg {α:Type} {s:Nat}:∀ {R:List (List α)},(∀r∈R,r.length=s)→R.flatten.length=R.length*s∧cG s R.length R.flatten=R
 | [],_=>⟨ae,rfl⟩
 | r::R,h=>by
  obtain ⟨k1,k2⟩:=xg (R:=R) fun x hx=>h x (by simp [hx])
  have h0:=h r ae
  refine ⟨by rw [List.flatten_cons,List.length_append,k1,h0,List.length_cons,Nat.add_mul];omega,?_⟩
  unfold cG at k2 ⊢
  rw [List.length_cons,List.range_succ_eq_map,List.map_cons,List.map_map]
  congr 1
  ·rw [Nat.zero_mul,List.drop_zero,List.flatten_cons,←h0,List.take_left]
  ·conv=>rhs;rw [←k2]
   refine List.map_congr_left fun y _=>?_
   simp only [Function.comp]
   rw [Nat.succ_mul,List.flatten_cons,Nat.add_comm,←List.drop_drop,←h0,List.drop_left]
theorem Pk {α:Type} {R:List (List α)}:R.reverse.flatten.length=R.flatten.length:=by
 simp [List.length_flatten,List.sum_reverse]
def fg (x:UInt8):Nat→List UInt8→Nat
 | 0,_=>0
 | _+1,[]=>0
 | m+1,y::l=>if y=x then fg x m l+1 else 0
def cX (l:List UInt8):Nat:=fg (l.headD 0) 129 l
theorem Kh (x:UInt8):∀(m:Nat) (l:List UInt8),fg x m l≤m∧fg x m l≤l.length
 | 0,_=>⟨Nat.le_refl _,Nat.zero_le _⟩
 | _+1,[]=>⟨Nat.zero_le _,Nat.zero_le _⟩
 | m+1,y::l=>by
  have:=Kh x m l
  unfold fg
  split
  ·simp only [List.length_cons];omega
  ·omega
theorem Ki (x:UInt8):∀(m:Nat) (l:List UInt8),l.take (fg x m l)=List.replicate (fg x m l) x
 | 0,_=>by simp [fg]
 | _+1,[]=>by simp [fg]
 | m+1,y::l=>by
  have:=Ki x m l
  unfold fg
  split
  ·rename_i h
   rw [List.take_succ_cons,List.replicate_succ,this,h]
  ·simp
theorem Ve (x:UInt8) (m:Nat) {l:List UInt8} {k:Nat} (h:l.length≤k):fg x m (l.drop k)=0:=by
 rw [List.drop_eq_nil_of_le h]
 cases m<;>rfl
theorem Vh (x:UInt8) (m:Nat) {l:List UInt8} {k:Nat} (h:k<l.length):fg x (m+1) (l.drop k)=if l[k]=x then fg x m (l.drop (k+1))+1 else 0:=by
 rw [List.drop_eq_getElem_cons h]
 rfl
theorem Vi {l:List UInt8} (h:l≠[]):1≤cX l:=by
 cases l with
 | nil=>exact absurd rfl h
 | cons y l =>
  show 1≤fg y (128+1) (y::l)
  unfold fg
  rw [if_pos rfl]
  omega
theorem Kj (l:List UInt8):cX l≤129∧cX l≤l.length:=Kh ..
def lM:Nat→List UInt8→Nat
 | 0,_=>0
 | _+1,[]=>0
 | m+1,y::l=>if 3≤cX (y::l) then 0 else lM m l+1
theorem IQ:∀(m:Nat) (l:List UInt8),lM m l≤m∧lM m l≤l.length
 | 0,_=>⟨Nat.le_refl _,Nat.zero_le _⟩
 | _+1,[]=>⟨Nat.zero_le _,Nat.zero_le _⟩
 | m+1,y::l=>by
  have:=IQ m l
  unfold lM
  split
  ·omega
  ·simp only [List.length_cons];omega
theorem Sh (m:Nat) {l:List UInt8} {k:Nat} (h:l.length≤k):lM m (l.drop k)=0:=by
 rw [List.drop_eq_nil_of_le h]
 cases m<;>rfl
theorem Si (m:Nat) {l:List UInt8} {k:Nat} (h:k<l.length):lM (m+1) (l.drop k)=if 3≤cX (l.drop k) then 0 else lM m (l.drop (k+1))+1:=by
 rw [List.drop_eq_getElem_cons h]
 rfl
def fN (l:List UInt8):Nat:=1+lM 127 (l.drop 1)
theorem CC {l:List UInt8} (h:l≠[]):1≤fN l∧fN l≤128∧fN l≤l.length:=by
 have:=IQ 127 (l.drop 1)
 have h1:0<l.length:=List.length_pos_iff.2 h
 rw [List.length_drop] at this
 unfold fN
 omega
def fc (l:List UInt8):List UInt8 :=
 if h:l=[] then [] else
 if h3:3≤cX l then UInt8.ofNat (126+cX l)::l.headD 0::fc (l.drop (cX l))
 else UInt8.ofNat (fN l - 1)::(l.take (fN l)++fc (l.drop (fN l)))
termination_by l.length
decreasing_by
 ·have h1:0<l.length:=List.length_pos_iff.2 h
  rw [List.length_drop];omega
 ·have h1:0<l.length:=List.length_pos_iff.2 h
  have:=CC h
  rw [List.length_drop];omega
theorem Jt:fc []=[]:=by rw [fc,dif_pos rfl]
theorem Ju {l:List UInt8} (h:3≤cX l):fc l=UInt8.ofNat (126+cX l)::l.headD 0::fc (l.drop (cX l)):=by
 have hl:l≠[]:=fun e=>by rw [e] at h;exact absurd h ag
 conv=>lhs;rw [fc]
 rw [dif_neg hl,dif_pos h]
theorem yI {l:List UInt8} (hl:l≠[]) (h:cX l<3):fc l=UInt8.ofNat (fN l - 1)::(l.take (fN l)++fc (l.drop (fN l))):=by
 conv=>lhs;rw [fc]
 rw [dif_neg hl,dif_neg aa]
def gp (l:List UInt8):Option (List UInt8):=match l with
 | []=>some []
 | c::r =>
  if 129≤c.toNat∧0<r.length then (gp (r.drop 1)).map (List.replicate (c.toNat - 126) (r.headD 0)++·)
  else if c.toNat<128∧c.toNat<r.length then (gp (r.drop (c.toNat+1))).map (r.take (c.toNat+1)++·) else none
termination_by l.length
decreasing_by
 ·rw [List.length_drop,List.length_cons];omega
 ·rw [List.length_drop,List.length_cons];omega
theorem F4:gp []=some []:=by rw [gp]
theorem AO (c:UInt8) (r:List UInt8):gp (c::r)=if 129≤c.toNat∧0<r.length then (gp (r.drop 1)).map (List.replicate (c.toNat - 126) (r.headD 0)++·)
  else if c.toNat<128∧c.toNat<r.length then (gp (r.drop (c.toNat+1))).map (r.take (c.toNat+1)++·) else none:=by
 conv=>lhs;rw [gp]
theorem AP:∀(n:Nat) (l:List UInt8),l.length<n→gp (fc l)=some l
 | 0,_,h=>absurd h (Nat.not_lt_zero _)
 | n+1,l,hn=>by
  by_cases hl:l=[]
  ·rw [hl,Jt,F4]
  have h1:0<l.length:=List.length_pos_iff.2 hl
  by_cases h3:3≤cX l
  ·have hr:=Kj l
   have hc:(UInt8.ofNat (126+cX l)).toNat=126+cX l:=by rw [UInt8.toNat_ofNat'];omega
   rw [Ju h3,AO,if_pos ⟨aa,ae⟩,List.drop_one,List.tail_cons,AP n _ (by rw [List.length_drop];omega),hc]
   show some (List.replicate (126+cX l - 126) (l.headD 0)++l.drop (cX l))=some l
   rw [show 126+cX l - 126=cX l by omega]
   have:=Ki (l.headD 0) 129 l
   rw [show fg (l.headD 0) 129 l=cX l from rfl] at this
   rw [←this,List.take_append_drop]
  ·have hk:=CC hl
   have hc:(UInt8.ofNat (fN l - 1)).toNat=fN l - 1:=by rw [UInt8.toNat_ofNat'];omega
   have htl:(l.take (fN l)).length=fN l:=by rw [List.length_take];omega
   rw [yI hl aa,AO,if_neg aa,hc,if_pos ⟨aa,by rw [List.length_append];omega⟩,show fN l - 1+1=fN l by omega]
   rw [List.drop_left' htl,List.take_left' htl,AP n _ (by rw [List.length_drop];omega)]
   show some (l.take (fN l)++l.drop (fN l))=some l
   rw [List.take_append_drop]
def jI (l:List UInt8) (size:Nat):Option (List UInt8):=match gp l with
 | none=>none
 | some o=>if o.length=size∧fc o=l then some o else none
theorem Lz {l:List UInt8} {size:Nat} {o:List UInt8}:jI l size=some o↔o.length=size∧fc o=l:=by
 unfold jI
 constructor
 ·intro h
  cases hd:gp l with
  | none=>rw [hd] at h;cases h
  | some y =>
   rw [hd] at h
   dsimp only at h
   split at h
   ·cases h;assumption
   ·cases h
 ·rintro ⟨h1,rfl⟩
  rw [AP _ o (Nat.lt_succ_self _)]
  dsimp only
  rw [if_pos ⟨h1,rfl⟩]
theorem Vj {l:List UInt8} {k:Nat} (hk:k<l.length) (h9:k<129) (h:cX l=k+fg (l.headD 0) (129 - k) (l.drop k)):cX l=if l[k].toNat=(l[0]'aa).toNat then k+1+fg (l.headD 0) (129 - (k+1)) (l.drop (k+1)) else k:=by
 obtain ⟨m,hm⟩:∃m,129 - k=m+1:=⟨128 - k,aa⟩
 rw [hm,Vh _ _ hk] at h
 rw [show 129 - (k+1)=m by omega]
 have e:l.headD 0=l[0]'aa:=by cases l with|nil=>simp at hk|cons y l=>rfl
 by_cases hx:l[k]=l.headD 0
 ·rw [if_pos hx] at h
  rw [if_pos (by rw [hx,e])]
  omega
 ·rw [if_neg hx] at h
  rw [if_neg (fun q=>hx (by rw [e];exact UInt8.toNat_inj.1 q))]
  omega
section
variable {V W:World}
theorem Kl (hV:Sub V W) {s:Sl} {l:List UInt8} (hs:ao V s l) (hl:l.length≤1099511627776):aj Tryz.prog 279 [s.v].toArray W fun v w'=>v=iv ((cX l:Nat):Int)∧Rel W V [] V w':=by
 have H:=Rel.start hV
 have hlen:=hs.len
 refine eV Tryz.func279 25 [0,2,3,21] ?_
 refine wk ?_
 refine aK (S:=Nat) ad [0,2] (fun k=>[(0,s.v),(3,iv k)]) (fun k w'=>k≤l.length∧k≤129∧cX l=k+fg (l.headD 0) (129 - k) (l.drop k)∧Rel W V [] V w') (fun k _=>l.length - k) 0 ?_
 conv=>whnf
 refine ⟨sB,⟨aa,aa,by show cX l=0+fg (l.headD 0) 129 (l.drop 0);rw [Nat.zero_add,List.drop_zero];rfl,H⟩,?_⟩
 clear H
 rintro k w ⟨hk,h9,hr,H⟩
 by_cases hlt:k<l.length
 rotate_left
 ·rw [Ve _ _ aa] at hr
  refine wk ?_
  refine dV 2 [] [0,1,2,3,4,5,6,7,8,9,10,11,12,13,14,15,16,17] H ?_;clear H;intro w H
  refine wk ?_
  exact ⟨congrArg (fun n:Nat=>iv n) (hr.trans (Nat.add_zero k)).symm,H.sx⟩
 by_cases PE:k<129
 rotate_left
 ·rw [show 129 - k=0 by omega] at hr
  simp only [fg] at hr
  refine wk ?_
  refine dV 2 [] [0,1,2,3,4,5,6,7,8,9,10,11,12,13,14,15,16,17] H ?_;clear H;intro w H
  refine wk ?_
  exact ⟨congrArg (fun n:Nat=>iv n) (hr.trans (Nat.add_zero k)).symm,H.sx⟩
 have hr:=Vj hlt PE hr
 obtain ⟨p1,c1⟩:=hs.aP (g:=bv) (fun _=>rfl) hlt
 obtain ⟨p0,c0⟩:=hs.aP (g:=bv) (fun _=>rfl) (show 0<l.length by omega)
 by_cases he:l[k].toNat=l[0].toNat
 ·rw [if_pos he] at hr
  refine wk ?_
  refine dV 2 [] [0,1,2,3,4,5,6,7,8,9,10,11,12,13,14,15,16,17] H ?_;clear H;intro w H
  refine wk ?_
  exact ⟨sB,k+1,sB,⟨aa,aa,hr,H⟩,aa⟩
 ·rw [if_neg he] at hr
  refine wk ?_
  refine dV 2 [] [0,1,2,3,4,5,6,7,8,9,10,11,12,13,14,15,16,17] H ?_;clear H;intro w H
  refine wk ?_
  exact ⟨congrArg (fun n:Nat=>iv n) hr.symm,H.sx⟩
theorem ao.rest {q:Sl} {X:List UInt8} (h:ao V q X) {k:Nat} (hk:k≤X.length):ao V ⟨aD q.a k q.cap 1,q.len - k,q.cap - k⟩ (X.drop k):=by
 have:=aw.sub h (n:=1) (fun _=>rfl) (a:=k) (b:=X.length) hk (Nat.le_refl _)
 rw [List.take_length] at this
 rw [h.len]
 exact this
theorem ao.head {q:Sl} {X:List UInt8} (h:ao V q X) {k:Nat} (hk:k≤X.length):ao V ⟨aD q.a 0 q.cap 1,k,q.cap⟩ (X.take k):=aw.sub h (n:=1) (fun _=>rfl) (a:=0) (b:=k) (Nat.zero_le _) hk
theorem TM {X:List UInt8} {n:Nat} (hn:n≤129) {y:UInt8} (hy:y=X.headD 0):[Value.int .u8 (wr .u8 (126+(n:Int))),bv y]=[UInt8.ofNat (126+n),X.headD 0].flatMap ay:=by
 have e1:wr .u8 (126+(n:Int))=((126+n:Nat):Int):=by show (126+(n:Int))%256=_;omega
 have e2:(UInt8.ofNat (126+n)).toNat=126+n:=by rw [UInt8.toNat_ofNat'];omega
 simp only [List.flatMap_cons,List.flatMap_nil,ay,bv,List.cons_append,List.nil_append,e1,e2,hy]
theorem CD {k:Nat} (h1:1≤k) (h2:k≤128):[Value.int .u8 (wr .u8 ((k:Int) - 1))]=[UInt8.ofNat (k - 1)].flatMap ay:=by
 have e1:wr .u8 ((k:Int) - 1)=((k - 1:Nat):Int):=by show ((k:Int) - 1)%256=_;omega
 have e2:(UInt8.ofNat (k - 1)).toNat=k - 1:=by rw [UInt8.toNat_ofNat'];omega
 simp only [List.flatMap_cons,List.flatMap_nil,ay,bv,List.append_nil,e1,e2]
theorem TO (hV:Sub V W) {s:Sl} {l:List UInt8} (hs:ao V s l) (hl:l.length≤100000000):aj Tryz.prog 219 [s.v].toArray W fun v w'=>∃r:Sl,v=r.v∧Rel W V [.row r 5 1 ((fc l).flatMap ay)] V w':=by
 have H:=Rel.start hV
 have hlen:=hs.len
 refine eV Tryz.func219 56 [0,2,3,4,5,8,12,39] ?_
 refine wk ?_
 replace H:=H.bw 5 1
 refine aK (S:=Sl×List UInt8×Sl×List UInt8) ad [2] (fun k=>[(0,k.1.v),(3,k.2.2.1.v)]) (fun k w'=>ao V k.1 k.2.1∧fc l=k.2.2.2++fc k.2.1∧k.2.1.length≤l.length∧k.2.2.2.length+2*k.2.1.length≤2*l.length∧Rel W V [.row k.2.2.1 5 1 (k.2.2.2.flatMap ay)] V w') (fun k _=>k.2.1.length) (s,l,⟨none,0,0⟩,[]) ?_
 conv=>whnf
 refine ⟨sB,⟨hs,rfl,Nat.le_refl _,ae,H⟩,?_⟩
 clear H
 rintro ⟨q,X,r,O⟩ w ⟨hq,hp,hX,hO,H⟩
 dsimp only at hq hp hX hO H ⊢
 have dI:=hq.len
 have xV:=hq.cap
 by_cases h0:X.length=0
 ·rw [List.eq_nil_of_length_eq_zero h0,Jt,List.append_nil] at hp
  refine wk ?_
  exact ⟨r,rfl,by rw [hp];exact H⟩
 have hne:X≠[]:=fun h=>h0 (by rw [h];rfl)
 obtain ⟨p0,c0⟩:=hq.aP (g:=bv) (fun _=>rfl) (show 0<X.length by omega)
 have Ni:X[0]'(by omega)=X.headD 0:=by cases X with|nil=>exact absurd rfl hne|cons y l=>rfl
 refine wk ?_
 refine (Kl H.data hq aa).use ?_
 rintro v w ⟨rfl,K⟩
 (replace H:=H.aq K)
 have hr:=Kj X
 have nZ:=Vi hne
 by_cases h3:3≤cX X
 ·have hf:=hq.rest hr.2
  refine wk ?_
  refine H.nA ?_;clear H;intro w _ H
  refine wk ?_
  replace H:=H.cj (TM hr.1 Ni)
  replace H:=H.gj (n:=2) (e:=5) (sz:=1) rfl (by simp [maxLen])
  refine Rel.cQ H (i:=0) rfl (by simp only [List.length_cons,List.length_nil];omega) ?_
  clear H
  intro r1 w H
  simp only [List.set_cons_zero] at H
  refine wk ?_
  exact ⟨sB,(_,X.drop (cX X),r1,O++[UInt8.ofNat (126+cX X),X.headD 0]),sB,⟨hf,by rw [hp,Ju h3];simp,by rw [List.length_drop];omega,by simp only [List.length_append,List.length_drop,List.length_cons,List.length_nil];omega,H⟩,by rw [List.length_drop];omega⟩
 have BW:=CC hne
 refine wk ?_
 refine aK (S:=Nat) ad [0,2,3,4,8,12] (fun k=>[(0,q.v),(3,r.v),(5,iv k)]) (fun k w'=>1≤k∧k≤X.length∧k≤128∧fN X=k+lM (128 - k) (X.drop k)∧Rel W V [.row r 5 1 (O.flatMap ay)] V w') (fun k _=>X.length - k) 1 ?_
 conv=>whnf
 refine ⟨sB,⟨aa,aa,aa,rfl,H⟩,?_⟩
 clear H
 rintro k w ⟨bS,e6,xP,iH,H⟩
 dsimp only at bS e6 xP iH H ⊢
 by_cases hlt:k<X.length
 rotate_left
 ·rw [Sh _ aa] at iH
  refine wk ?_
  (first|refine fo (id:=10) ad mixed (Kv V) Kv.trans [] [] [0,1,2,3,6,7,8,4,5,9,10] [(4,[]),(5,[4]),(9,[4,5])] ab ?_);intro w aG;replace H:=Rel.ext H aG.ext
  repeat' (refine wk ?_;(first|refine Kv.go H ?_|refine Kv.go2 H (by assumption) ?_|(refine And.intro (fun w1 hkp=>?_) ?_;focus ((first|have H:=Kv.in H hkp|have H:=Kv.j9 H (by assumption) hkp);((repeat ((conv=>whnf);first|refine an ?_|refine H.ce ?_|refine H.db ?_|refine ea ?_|refine ol ?_|fail|refine cT ?_|refine cF ?_|refine cN ?_|refine cM ?_|refine H.lw ?_|refine H.ll ?_));(conv=>whnf));all_goals (first|exact ⟨rfl,rfl⟩|exact rfl)))|refine And.intro ?_ ?_|(refine H.nA ?_;clear H;intro w _ H)))
  refine wk ?_
  replace H:=H.cj (CD bS xP)
  replace H:=H.gj (n:=1) (e:=5) (sz:=1) rfl (by simp [maxLen])
  refine Rel.cQ H (i:=0) rfl (by simp only [List.length_cons,List.length_nil];omega) ?_
  clear H
  intro r1 w H
  simp only [List.set_cons_zero] at H
  repeat' (refine wk ?_;(first|refine Kv.go H ?_|refine Kv.go2 H (by assumption) ?_|(refine And.intro (fun w1 hkp=>?_) ?_;focus ((first|have H:=Kv.in H hkp|have H:=Kv.j9 H (by assumption) hkp);((repeat ((conv=>whnf);first|refine an ?_|refine H.ce ?_|refine H.db ?_|refine ea ?_|refine ol ?_|fail|refine cT ?_|refine cF ?_|refine cN ?_|refine cM ?_|refine H.lw ?_|refine H.ll ?_));(conv=>whnf));all_goals (first|exact ⟨rfl,rfl⟩|exact rfl)))|refine And.intro ?_ ?_|(refine H.nA ?_;clear H;intro w _ H)))
  refine wk ?_
  refine Rel.gn H (i:=0) rfl (hq.head e6) (by simp only [List.length_append,List.length_cons,List.length_nil,List.length_take];omega) ?_
  clear H
  intro r2 w H
  simp only [List.set_cons_zero] at H
  repeat' (refine wk ?_;(first|refine Kv.go H ?_|refine Kv.go2 H (by assumption) ?_|(refine And.intro (fun w1 hkp=>?_) ?_;focus ((first|have H:=Kv.in H hkp|have H:=Kv.j9 H (by assumption) hkp);((repeat ((conv=>whnf);first|refine an ?_|refine H.ce ?_|refine H.db ?_|refine ea ?_|refine ol ?_|fail|refine cT ?_|refine cF ?_|refine cN ?_|refine cM ?_|refine H.lw ?_|refine H.ll ?_));(conv=>whnf));all_goals (first|exact ⟨rfl,rfl⟩|exact rfl)))|refine And.intro ?_ ?_|(refine H.nA ?_;clear H;intro w _ H)))
  ·trivial
  have hf:=hq.rest e6
  exact ⟨(_,X.drop k,r2,O++[UInt8.ofNat (k - 1)]++X.take k),sB,⟨hf,by rw [hp,yI hne aa,iH];simp,by rw [List.length_drop];omega,by simp only [List.length_append,List.length_drop,List.length_cons,List.length_nil,List.length_take];omega,H⟩,by rw [List.length_drop];omega⟩
 by_cases h128:k<128
 rotate_left
 ·rw [show 128 - k=0 by omega] at iH
  simp only [lM] at iH
  refine wk ?_
  (first|refine fo (id:=10) ad mixed (Kv V) Kv.trans [] [] [0,1,2,3,6,7,8,4,5,9,10] [(4,[]),(5,[4]),(9,[4,5])] ab ?_);intro w aG;replace H:=Rel.ext H aG.ext
  repeat' (refine wk ?_;(first|refine Kv.go H ?_|refine Kv.go2 H (by assumption) ?_|(refine And.intro (fun w1 hkp=>?_) ?_;focus ((first|have H:=Kv.in H hkp|have H:=Kv.j9 H (by assumption) hkp);((repeat ((conv=>whnf);first|refine an ?_|refine H.ce ?_|refine H.db ?_|refine ea ?_|refine ol ?_|fail|refine cT ?_|refine cF ?_|refine cN ?_|refine cM ?_|refine H.lw ?_|refine H.ll ?_));(conv=>whnf));all_goals (first|exact ⟨rfl,rfl⟩|exact rfl)))|refine And.intro ?_ ?_|(refine H.nA ?_;clear H;intro w _ H)))
  refine wk ?_
  replace H:=H.cj (CD bS xP)
  replace H:=H.gj (n:=1) (e:=5) (sz:=1) rfl (by simp [maxLen])
  refine Rel.cQ H (i:=0) rfl (by simp only [List.length_cons,List.length_nil];omega) ?_
  clear H
  intro r1 w H
  simp only [List.set_cons_zero] at H
  repeat' (refine wk ?_;(first|refine Kv.go H ?_|refine Kv.go2 H (by assumption) ?_|(refine And.intro (fun w1 hkp=>?_) ?_;focus ((first|have H:=Kv.in H hkp|have H:=Kv.j9 H (by assumption) hkp);((repeat ((conv=>whnf);first|refine an ?_|refine H.ce ?_|refine H.db ?_|refine ea ?_|refine ol ?_|fail|refine cT ?_|refine cF ?_|refine cN ?_|refine cM ?_|refine H.lw ?_|refine H.ll ?_));(conv=>whnf));all_goals (first|exact ⟨rfl,rfl⟩|exact rfl)))|refine And.intro ?_ ?_|(refine H.nA ?_;clear H;intro w _ H)))
  refine wk ?_
  refine Rel.gn H (i:=0) rfl (hq.head e6) (by simp only [List.length_append,List.length_cons,List.length_nil,List.length_take];omega) ?_
  clear H
  intro r2 w H
  simp only [List.set_cons_zero] at H
  repeat' (refine wk ?_;(first|refine Kv.go H ?_|refine Kv.go2 H (by assumption) ?_|(refine And.intro (fun w1 hkp=>?_) ?_;focus ((first|have H:=Kv.in H hkp|have H:=Kv.j9 H (by assumption) hkp);((repeat ((conv=>whnf);first|refine an ?_|refine H.ce ?_|refine H.db ?_|refine ea ?_|refine ol ?_|fail|refine cT ?_|refine cF ?_|refine cN ?_|refine cM ?_|refine H.lw ?_|refine H.ll ?_));(conv=>whnf));all_goals (first|exact ⟨rfl,rfl⟩|exact rfl)))|refine And.intro ?_ ?_|(refine H.nA ?_;clear H;intro w _ H)))
  ·trivial
  have hf:=hq.rest e6
  exact ⟨(_,X.drop k,r2,O++[UInt8.ofNat (k - 1)]++X.take k),sB,⟨hf,by rw [hp,yI hne aa,iH];simp,by rw [List.length_drop];omega,by simp only [List.length_append,List.length_drop,List.length_cons,List.length_nil,List.length_take];omega,H⟩,by rw [List.length_drop];omega⟩
 have QR:=hq.rest e6
 rw [show 128 - k=127 - k+1 by omega,Si _ hlt] at iH
 refine wk ?_
 refine (Kl H.data QR (by rw [List.length_drop];omega)).use ?_
 rintro v w ⟨rfl,K⟩
 (replace H:=H.aq K)
 by_cases h4:3≤cX (X.drop k)
 ·rw [if_pos h4] at iH
  refine wk ?_
  (first|refine fo (id:=10) ad mixed (Kv V) Kv.trans [] [] [0,1,2,3,6,7,8,4,5,9,10] [(4,[]),(5,[4]),(9,[4,5])] ab ?_);intro w aG;replace H:=Rel.ext H aG.ext
  repeat' (refine wk ?_;(first|refine Kv.go H ?_|refine Kv.go2 H (by assumption) ?_|(refine And.intro (fun w1 hkp=>?_) ?_;focus ((first|have H:=Kv.in H hkp|have H:=Kv.j9 H (by assumption) hkp);((repeat ((conv=>whnf);first|refine an ?_|refine H.ce ?_|refine H.db ?_|refine ea ?_|refine ol ?_|fail|refine cT ?_|refine cF ?_|refine cN ?_|refine cM ?_|refine H.lw ?_|refine H.ll ?_));(conv=>whnf));all_goals (first|exact ⟨rfl,rfl⟩|exact rfl)))|refine And.intro ?_ ?_|(refine H.nA ?_;clear H;intro w _ H)))
  refine wk ?_
  replace H:=H.cj (CD bS xP)
  replace H:=H.gj (n:=1) (e:=5) (sz:=1) rfl (by simp [maxLen])
  refine Rel.cQ H (i:=0) rfl (by simp only [List.length_cons,List.length_nil];omega) ?_
  clear H
  intro r1 w H
  simp only [List.set_cons_zero] at H
  repeat' (refine wk ?_;(first|refine Kv.go H ?_|refine Kv.go2 H (by assumption) ?_|(refine And.intro (fun w1 hkp=>?_) ?_;focus ((first|have H:=Kv.in H hkp|have H:=Kv.j9 H (by assumption) hkp);((repeat ((conv=>whnf);first|refine an ?_|refine H.ce ?_|refine H.db ?_|refine ea ?_|refine ol ?_|fail|refine cT ?_|refine cF ?_|refine cN ?_|refine cM ?_|refine H.lw ?_|refine H.ll ?_));(conv=>whnf));all_goals (first|exact ⟨rfl,rfl⟩|exact rfl)))|refine And.intro ?_ ?_|(refine H.nA ?_;clear H;intro w _ H)))
  refine wk ?_
  refine Rel.gn H (i:=0) rfl (hq.head e6) (by simp only [List.length_append,List.length_cons,List.length_nil,List.length_take];omega) ?_
  clear H
  intro r2 w H
  simp only [List.set_cons_zero] at H
  repeat' (refine wk ?_;(first|refine Kv.go H ?_|refine Kv.go2 H (by assumption) ?_|(refine And.intro (fun w1 hkp=>?_) ?_;focus ((first|have H:=Kv.in H hkp|have H:=Kv.j9 H (by assumption) hkp);((repeat ((conv=>whnf);first|refine an ?_|refine H.ce ?_|refine H.db ?_|refine ea ?_|refine ol ?_|fail|refine cT ?_|refine cF ?_|refine cN ?_|refine cM ?_|refine H.lw ?_|refine H.ll ?_));(conv=>whnf));all_goals (first|exact ⟨rfl,rfl⟩|exact rfl)))|refine And.intro ?_ ?_|(refine H.nA ?_;clear H;intro w _ H)))
  ·trivial
  have hf:=hq.rest e6
  exact ⟨(_,X.drop k,r2,O++[UInt8.ofNat (k - 1)]++X.take k),sB,⟨hf,by rw [hp,yI hne aa,iH];simp,by rw [List.length_drop];omega,by simp only [List.length_append,List.length_drop,List.length_cons,List.length_nil,List.length_take];omega,H⟩,by rw [List.length_drop];omega⟩
 rw [if_neg h4] at iH
 refine wk ?_
 exact ⟨sB,k+1,sB,⟨aa,aa,aa,by rw [show 128 - (k+1)=127 - k by omega];omega,H⟩,aa⟩
end
abbrev gE (f:Nat) (p:Sl):List Value:=[iv (f:Int),p.v]
def bitsOf (f:Nat):Nat:=if f / 16=0 then 1 else if f / 16=1 then 4 else if f / 16=2 then 8 else 24
def rowOf (f w:Nat):Nat:=(w*bitsOf f+7) / 8
theorem Ai (f:Nat):1≤bitsOf f∧bitsOf f≤24:=by
 unfold bitsOf
 split
 ·decide
 ·split
  ·decide
  ·split<;>decide
theorem and_1:∀f:Nat,f<256→aV .and .i64 (f:Int) 1=((f%2:Nat):Int):=by decide +kernel
theorem and_2:∀f:Nat,f<256→aV .and .i64 (f:Int) 2=((2*(f / 2%2):Nat):Int):=by decide +kernel
section
variable {V W:World}
theorem A1 (hV:Sub V W) (c i:Int):aj Tryz.prog 131 [iv c,iv i].toArray W fun v w'=>v=gq c i∧Rel W V [] V w':=by
 have H:=Rel.start hV
 refine eV Tryz.func131 8 [0,1,4] ?_
 refine H.wg ?_;clear H;intro _ _ w H
 exact H.sx
theorem wU (hV:Sub V W) {f:Nat} (hf:f<256) (p:Sl):aj Tryz.prog 139 [.agg (gE f p).toArray].toArray W fun v w'=>v=iv ((f / 16:Nat):Int)∧Rel W V [] V w':=by
 have H:=Rel.start hV
 refine eV Tryz.func139 6 [0,1,2] ?_
 refine wk ?_
 refine H.nA ?_;clear H;intro w b1 H
 refine wk ?_
 exact H.sx
theorem IC (hV:Sub V W) {f:Nat} (hf:f<256) (p:Sl):aj Tryz.prog 142 [.agg (gE f p).toArray].toArray W fun v w'=>v=.bool (decide (f<32))∧Rel W V [] V w':=by
 have H:=Rel.start hV
 refine eV Tryz.func142 6 [0,1,2] ?_
 refine wk ?_
 refine H.nA ?_;clear H;intro w b1 H
 refine wk ?_
 refine (wU H.data aa p).use ?_
 rintro q w ⟨rfl,K⟩
 (replace H:=H.aq K)
 refine wk ?_
 exact ⟨congrArg Value.bool (decide_eq_decide.2 aa),H.sx⟩
theorem EZ (hV:Sub V W) {f:Nat} (hf:f<64) (p:Sl):aj Tryz.prog 140 [.agg (gE f p).toArray].toArray W fun v w'=>v=iv ((bitsOf f:Nat):Int)∧Rel W V [] V w':=by
 have H:=Rel.start hV
 refine eV Tryz.func140 7 [0,1,2] ?_
 refine wk ?_
 refine H.nA ?_;clear H;intro w b1 H
 refine wk ?_
 refine aH.of (v:=.agg #[iv 1,iv 4,iv 8,iv 24]) (w':=w) ab ?_
 refine wk ?_
 refine (wU H.data aa p).use ?_
 rintro q w ⟨rfl,K⟩
 (replace H:=H.aq K)
 unfold bitsOf
 obtain ⟨d,hd⟩:∃d,d=f / 16:=⟨_,rfl⟩
 rw [←hd]
 have:d=0∨d=1∨d=2∨d=3:=aa
 clear hd
 rcases this with rfl|rfl|rfl|rfl
 all_goals
  refine wk ?_
  exact H.sx
theorem U9 (hV:Sub V W) {f:Nat} (hf:f<64) (p:Sl) {wd:Nat} (hw:wd≤64):aj Tryz.prog 272 [.agg (gE f p).toArray,iv (wd:Int)].toArray W fun v w'=>v=iv ((rowOf f wd:Nat):Int)∧Rel W V [] V w':=by
 have H:=Rel.start hV
 have hb:=Ai f
 have hm:wd*bitsOf f≤64*24:=Nat.mul_le_mul hw hb.2
 have Y6:(wd:Int)*((bitsOf f:Nat):Int)=((wd*bitsOf f:Nat):Int):=(Int.natCast_mul _ _).symm
 refine eV Tryz.func272 11 [0,1,2,4] ?_
 refine wk ?_
 refine H.nA ?_;clear H;intro w b1 H
 refine wk ?_
 refine (EZ H.data hf p).use ?_
 rintro q w ⟨rfl,K⟩
 (replace H:=H.aq K)
 refine wk ?_
 exact H.sx
theorem P6 (hV:Sub V W) {f:Nat} (hf:f<256) (p:Sl):aj Tryz.prog 141 [.agg (gE f p).toArray,iv 1].toArray W fun v w'=>v=.bool (decide (f%2=1))∧Rel W V [] V w':=by
 have H:=Rel.start hV
 refine eV Tryz.func141 10 [0,1,2,4] ?_
 refine wk ?_
 refine H.nA ?_;clear H;intro w b1 H
 refine wk ?_
 rw [and_1 f hf]
 refine wk ?_
 exact ⟨by first|exact congrArg Value.bool (decide_eq_decide.2 aa)|(rw [←decide_not];exact congrArg Value.bool (decide_eq_decide.2 aa)),H.sx⟩
theorem P7 (hV:Sub V W) {f:Nat} (hf:f<256) (p:Sl):aj Tryz.prog 141 [.agg (gE f p).toArray,iv 2].toArray W fun v w'=>v=.bool (decide (f / 2%2=1))∧Rel W V [] V w':=by
 have H:=Rel.start hV
 refine eV Tryz.func141 10 [0,1,2,4] ?_
 refine wk ?_
 refine H.nA ?_;clear H;intro w b1 H
 refine wk ?_
 rw [and_2 f hf]
 refine wk ?_
 exact ⟨by first|exact congrArg Value.bool (decide_eq_decide.2 aa)|(rw [←decide_not];exact congrArg Value.bool (decide_eq_decide.2 aa)),H.sx⟩
theorem XI (f:Nat) (w:World) (hf:f<256):aj Tryz.prog 209 [iv (f:Int)].toArray w fun v w'=>v=.bool (decide (f<64∧f%16<4))∧w=w':=by
 refine eV Tryz.func209 11 [0,2] ?_
 by_cases h1:f<64
 ·refine wk ?_
  exact ⟨congrArg Value.bool (decide_eq_decide.2 aa),rfl⟩
 ·refine wk ?_
  exact ⟨(congrArg Value.bool (decide_eq_false (fun h=>h1 h.1))).symm,rfl⟩
end
abbrev vu:List UInt8:=[119,105,100,116,104]
abbrev vp:List UInt8:=[104,101,105,103,104,116]
abbrev vq:List UInt8:=[112,105,120,101,108,115]
abbrev kZ (wd ht:Int) (b:List UInt8):ah:=.mk 4 0 [] [vu,vp,vq] [.mk 1 wd [] [] [],.mk 1 ht [] [] [],.mk 2 0 b [] []]
theorem T5 {V:World} {bn bp:Nat} {wd ht:Int} {r:Sl} {b:List UInt8} (h1:Cells V (some ⟨bn,0,none⟩) [str vu,str vp,str vq]) (h2:Cells V (some ⟨bp,0,none⟩) (br (gz wd)++(br (gz ht)++br (eU r)))) (h3:ao V r b) :
  bc V ⟨4,0,⟨none,0,0⟩,⟨some ⟨bn,0,none⟩,3,3⟩,⟨some ⟨bp,0,none⟩,3,3⟩⟩ (kZ wd ht b):=by
 refine Et (hs:=[gz wd,gz ht,eU r]) ⟨rfl,Nat.le_refl _,h1⟩ ⟨rfl,Nat.le_refl _,h2⟩ rfl fun i x p hx hp=>?_
 match i,hx,hp with
 | 0,hx,hp=>cases hx;cases hp;exact sO _ _
 | 1,hx,hp=>cases hx;cases hp;exact sO _ _
 | 2,hx,hp=>cases hx;cases hp;exact qB h3
 | k+3,hx,hp=>simp at hx
theorem LK {wd ht:Int} {b:List UInt8} (h1:bI wd) (h2:bI ht) (h3:b.length≤1048576):VB 1048576 (kZ wd ht b):=by
 refine .mk (fL 4) (fL 0) (Nat.zero_le _) (by show 3≤1048576;decide) (fun s hs=>?_) (by show 3≤1048576;decide) fun p hp=>?_
 ·simp only [ah.names,List.mem_cons,List.not_mem_nil,or_false] at hs
  rcases hs with rfl|rfl|rfl<;>decide
 ·simp only [ah.parts,List.mem_cons,List.not_mem_nil,or_false] at hp
  rcases hp with rfl|rfl|rfl
  ·exact sQ h1
  ·exact sQ h2
  ·exact qC h3
theorem Ph {α:Type} {f:α→List Value} {l:List α} (h:∀x,(f x).all Value.oneCell'=true):∀u∈l.flatMap f,u.oneCell'=true:=by
 intro u hu
 obtain ⟨x,_,hx⟩:=List.mem_flatMap.1 hu
 exact List.all_eq_true.1 (h x) u hx
section
variable {V W:World}
theorem NJ (hV:Sub V W) {s:Sl} {l:List UInt8} (hs:aw ay V s l) (hl:l.length≤1099511627776):aj Tryz.prog 73 [s.v].toArray W fun v w'=>∃(V':World) (t:Sl),Sub V V'∧Rel W V [] V' w'∧v=t.v∧aw ay V' t l:=by
 have H:=Rel.start hV
 have hlen:=hs.len
 refine eV Tryz.func73 8 [0,2,4] ?_
 rcases s with ⟨_|p,n,c⟩
 ·have mI:l=[]:=by
   rcases l with _|⟨b,l⟩
   ·rfl
   ·have:=hs.cells.1 (by simp [ay])
    simp [Plain] at this
  subst mI
  refine wk ?_
  exact ⟨V,⟨none,0,0⟩,Sub.refl V,H.sx,rfl,aw.nil _ _⟩
 ·refine wk ?_
  refine H.nA ?_;clear H;intro w b5 H
  refine wk ?_
  replace H:=H.gj (n:=0) (e:=5) (sz:=1) rfl (by simp [maxLen])
  refine Rel.ET (s:=⟨some ⟨b5,0,none⟩,0,0⟩) (x:=⟨some p,n,c⟩) ad rfl rfl rfl rfl rfl ag H (hs.up H.data).cells (jZ (n:=1) (fun _=>rfl) l |>.trans (by rw [←hlen])) (Ph (fun _=>rfl)) (by simp;dsimp only at hlen;omega) (by simp;dsimp only at hlen;omega) ?_
  clear H
  intro rn w H uz
  refine wk ?_
  obtain ⟨V2,hV2,H,hr⟩:=Rel.aJ H (fun _=>rfl) ag
  exact ⟨V2,rn,hV2,H.sx,rfl,hr⟩
theorem Ji (hV:Sub V W) (n:Int):aj Tryz.prog 212 [iv n].toArray W fun q w'=>q=fG (gz n)∧Rel W V [] V w':=by
 have H:=Rel.start hV
 refine eV Tryz.func212 5 [0,2] ?_
 refine wk ?_
 refine H.nA ?_;clear H;intro w b2 H
 refine H.wg ?_;clear H;intro w H
 exact H.sx
theorem Uc (hV:Sub V W) (wd ht:Int) {s:Sl} {b:List UInt8} (hs:ao V s b) (hl:b.length≤1099511627776) :
  aj Tryz.prog 133 [iv wd,iv ht,s.v].toArray W fun q w'=>∃(V':World) (h:VH),Sub V V'∧Rel W V [] V' w'∧q=fG h∧bc V' h (kZ wd ht b):=by
 have H:=Rel.start hV
 refine eV Tryz.func133 20 [0,1,2,6,7] ?_
 refine wk ?_
 refine H.nA ?_;clear H;intro w b6 H
 refine wk ?_
 refine H.nA ?_;clear H;intro w b7 H
 refine wk ?_
 refine (Ji H.data wd).use ?_
 rintro q w ⟨rfl,K⟩
 (replace H:=H.aq K)
 refine wk ?_
 refine (Ji H.data ht).use ?_
 rintro q w ⟨rfl,K⟩
 (replace H:=H.aq K)
 refine wk ?_
 refine (NJ H.data hs hl).use ?_
 rintro q w ⟨V2,r,hV2,K,rfl,hr⟩
 (replace H:=H.aq K)
 refine wk ?_
 refine H.nA ?_;clear H;intro w jV H
 have H0:Rel W V [.al jV (br (gz wd)++(br (gz ht)++br (eU r))) 27,.al b7 [str vu,str vp,str vq] 9,.al b6 (br cw) 27] V2 w:=H
 obtain ⟨V3,ar,H,mB⟩:=H0.bJ
 clear H0
 obtain ⟨V4,av,H,gv⟩:=H.bJ
 refine H.wg ?_;clear H;intro w H
 exact ⟨V4,_,(hV2.trans ar).trans av,H.sx,rfl,T5 gv.cells (mB.cells.sG av) ((hr.up ar).up av)⟩
end
abbrev aW:=UInt8×UInt8×UInt8
abbrev nI (c:aW):List UInt8:=[c.1,c.2.1,c.2.2]
abbrev cZ (p:List aW):List UInt8:=p.flatMap nI
def ib:List UInt8→List aW
 | r::g::b::l=>(r,g,b)::ib l
 | _=>[]
theorem wN:∀p:List aW,ib (cZ p)=p
 | []=>rfl
 | c::p=>by
  show (c.1,c.2.1,c.2.2)::ib (cZ p)=c::p
  rw [wN p]
theorem Aw:∀(n:Nat) {l:List UInt8},l.length=3*n→cZ (ib l)=l∧(ib l).length=n
 | 0,[],_=>⟨rfl,rfl⟩
 | 0,_::_,h=>by simp at h
 | n+1,[],h=>by first|(simp at h;omega)|simp at h
 | n+1,[_],h=>by first|(simp at h;omega)|simp at h
 | n+1,[_,_],h=>by first|(simp at h;omega)|simp at h
 | n+1,r::g::b::l,h=>by
  obtain ⟨k1,k2⟩:=Aw n (l:=l) (by simp at h;omega)
  show [r,g,b]++cZ (ib l)=_∧(ib l).length+1=_
  rw [k1,k2]
  exact ⟨rfl,rfl⟩
theorem jm (p:List aW):(cZ p).length=3*p.length:=by
 induction p with
 | nil=>rfl
 | cons c p ih=>simp only [cZ,List.flatMap_cons,List.length_append,List.length_cons,List.length_nil] at ih ⊢;omega
abbrev z8 (l:List UInt8) (i:Nat):UInt8:=l[i]?.getD 0
abbrev dX (l:List UInt8) (i:Nat):aW:=(z8 l (3*i),z8 l (3*i+1),z8 l (3*i+2))
theorem Fi (l:List UInt8):∀(n:Nat),l.length=3*n→ib l=(List.range n).map (dX l):=by
 intro n
 induction n generalizing l with
 | zero=>intro h;rw [List.eq_nil_of_length_eq_zero (l:=l) aa];rfl
 | succ n ih =>
  intro h
  match l,h with
  | r::g::b::l,h =>
   rw [List.range_succ_eq_map,List.map_cons,List.map_map]
   show (r,g,b)::ib l=_
   rw [ih l (by simp at h;omega)]
   congr 1
  | [],h=>first|(simp at h;omega)|simp at h
  | [_],h=>first|(simp at h;omega)|simp at h
  | [_,_],h=>first|(simp at h;omega)|simp at h
def lS:List aW→aW→Nat
 | [],_=>0
 | x::l,c=>if x=c then 0 else lS l c+1
theorem JJ:∀ {l:List aW} {i:Nat} {c:aW},l.Nodup→l[i]?=some c→lS l c=i
 | x::l,0,c,_,h=>by
  simp at h;subst h
  unfold lS
  rw [if_pos rfl]
 | x::l,i+1,c,hn,h=>by
  rw [List.getElem?_cons_succ] at h
  obtain ⟨h1,h2⟩:=List.nodup_cons.1 hn
  unfold lS
  rw [if_neg (fun e=>h1 (by rw [e];exact List.mem_of_getElem? h)),JJ h2 h]
def kf (f:Nat):Nat:=if f / 16=1 then 16 else 2
def u6 (f:Nat) (l:List UInt8) (n:Nat):Prop:=1≤n∧n≤kf f∧3*n≤l.length∧(ib (l.take (3*n))).Nodup
instance (f:Nat) (l:List UInt8) (n:Nat):Decidable (u6 f l n):=by unfold u6;infer_instance
def gT (f:Nat):List UInt8→Option (List aW×List UInt8)
 | []=>none
 | c::l=>if u6 f l c.toNat then some (ib (l.take (3*c.toNat)),l.drop (3*c.toNat)) else none
def oL (f:Nat) (b:List UInt8):Option (List aW×List UInt8):=if f<32 then gT f b else some ([],b)
def ot (p:List aW):List UInt8:=UInt8.ofNat p.length::cZ p
def ng (f:Nat) (p:List aW):List UInt8:=if f<32 then ot p else []
structure jg (f:Nat) (p:List aW):Prop where
 ind:f<32→1≤p.length∧p.length≤kf f∧p.Nodup
 non:32≤f→p=[]
theorem yq (f:Nat):kf f≤16:=by unfold kf;split<;>omega
theorem jg.le {f:Nat} {p:List aW} (h:jg f p):p.length≤16:=by
 by_cases hf:f<32
 ·have:=h.ind hf;have:=yq f;omega
 ·rw [h.non aa];simp
theorem TU {f:Nat} {b l:List UInt8} {p:List aW} (h:gT f b=some (p,l)):b=ot p++l∧1≤p.length∧p.length≤kf f∧p.Nodup:=by
 cases b with
 | nil=>cases h
 | cons c r =>
  unfold gT at h
  simp only at h
  by_cases hk:u6 f r c.toNat
  ·rw [if_pos hk] at h
   obtain ⟨h1,h2,h3,h4⟩:=hk
   cases h
   obtain ⟨k1,k2⟩:=Aw c.toNat (l:=r.take (3*c.toNat)) (by rw [List.length_take];omega)
   refine ⟨?_,by rw [k2];exact h1,by rw [k2];exact h2,h4⟩
   unfold ot
   rw [k1,k2,List.cons_append,List.take_append_drop]
   congr 1
   exact (UInt8.ofNat_toNat).symm
  ·rw [if_neg hk] at h
   cases h
theorem TT {f:Nat} {p:List aW} (l:List UInt8) (h:1≤p.length∧p.length≤kf f∧p.Nodup):gT f (ot p++l)=some (p,l):=by
 have hm:=yq f
 have e:(UInt8.ofNat p.length).toNat=p.length:=by rw [UInt8.toNat_ofNat'];omega
 have e1:(cZ p++l).take (3*p.length)=cZ p:=by rw [←jm,List.take_left]
 have e2:(cZ p++l).drop (3*p.length)=l:=by rw [←jm,List.drop_left]
 show (if u6 f (cZ p++l) (UInt8.ofNat p.length).toNat then some (ib ((cZ p++l).take (3*(UInt8.ofNat p.length).toNat)),(cZ p++l).drop (3*(UInt8.ofNat p.length).toNat)) else none)=_
 rw [e,e1,e2,wN,if_pos]
 refine ⟨h.1,h.2.1,by rw [List.length_append,jm];omega,?_⟩
 rw [e1,wN]
 exact h.2.2
theorem DW {f:Nat} {b l:List UInt8} {p:List aW} (h:oL f b=some (p,l)):b=ng f p++l∧jg f p:=by
 unfold oL at h
 unfold ng
 split at h
 ·rename_i hf
  rw [if_pos hf]
  obtain ⟨k1,k2⟩:=TU h
  exact ⟨k1,fun _=>k2,fun q=>by omega⟩
 ·rename_i hf
  rw [if_neg hf]
  cases h
  exact ⟨rfl,fun q=>absurd q hf,fun _=>rfl⟩
theorem Wp {f:Nat} {p:List aW} (l:List UInt8) (h:jg f p):oL f (ng f p++l)=some (p,l):=by
 unfold oL ng
 split
 ·rename_i hf
  exact TT l (h.ind hf)
 ·rename_i hf
  rw [h.non aa]
  rfl
theorem Wo {f:Nat} {p:List aW} (h:jg f p):(ng f p).length≤49:=by
 have:=h.le
 unfold ng ot
 split
 ·rw [List.length_cons,jm];omega
 ·simp
def fieldAt (n:Nat) (row:List UInt8) (i:Nat):Nat:=(z8 row (i*n / 8)).toNat / 2 ^ (8 - n - i*n%8)%2 ^ n
def byteOf (n:Nat) (q:Nat→Nat) (k:Nat):Nat:=if n=4 then 16*q (2*k)+q (2*k+1)
 else 128*q (8*k)+64*q (8*k+1)+32*q (8*k+2)+16*q (8*k+3)+8*q (8*k+4)+4*q (8*k+5)+2*q (8*k+6)+q (8*k+7)
def qi (n size:Nat) (q:Nat→Nat):List UInt8:=(List.range size).map fun k=>UInt8.ofNat (byteOf n q k)
theorem Jv (n size:Nat) (q:Nat→Nat):(qi n size q).length=size:=by simp [qi]
theorem TL {n size:Nat} {q:Nat→Nat} {k:Nat} (hk:k<size):z8 (qi n size q) k=UInt8.ofNat (byteOf n q k):=by
 simp [z8,qi,List.getElem?_map,List.getElem?_range hk]
theorem GC (n:Nat) (row:List UInt8) (i:Nat):fieldAt n row i<2 ^ n:=Nat.mod_lt _ (Nat.pow_pos ag)
theorem TN {n:Nat} (hn:n=1∨n=4) (row:List UInt8):qi n row.length (fieldAt n row)=row:=by
 refine List.ext_getElem? fun k=>?_
 by_cases hk:k<row.length
 rotate_left
 ·rw [List.getElem?_eq_none (by rw [Jv];omega),List.getElem?_eq_none aa]
 have e:∀l:List UInt8,k<l.length→l[k]?=some (z8 l k):=fun l h=>by simp [z8,List.getElem?_eq_getElem h]
 rw [e _ (by rw [Jv];exact hk),e row hk,TL hk]
 congr 1
 apply UInt8.toNat_inj.1
 have hc:=(z8 row k).toNat_lt
 rw [UInt8.toNat_ofNat']
 have key:byteOf n (fieldAt n row) k=(z8 row k).toNat:=by
  unfold byteOf fieldAt
  rcases hn with rfl|rfl
  ·rw [if_neg ag]
   simp only [Nat.mul_one,show 8*k / 8=k by omega,show (8*k+1) / 8=k by omega,show (8*k+2) / 8=k by omega,show (8*k+3) / 8=k by omega,show (8*k+4) / 8=k by omega,show (8*k+5) / 8=k by omega,show (8*k+6) / 8=k by omega,show (8*k+7) / 8=k by omega,
    show 8*k%8=0 by omega,show (8*k+1)%8=1 by omega,show (8*k+2)%8=2 by omega,show (8*k+3)%8=3 by omega,show (8*k+4)%8=4 by omega,show (8*k+5)%8=5 by omega,show (8*k+6)%8=6 by omega,show (8*k+7)%8=7 by omega]
   simp only [Nat.reducePow,Nat.reduceSub]
   omega
  ·rw [if_pos rfl]
   simp only [show 2*k*4 / 8=k by omega,show (2*k+1)*4 / 8=k by omega,show 2*k*4%8=0 by omega,show (2*k+1)*4%8=4 by omega]
   simp only [Nat.reducePow,Nat.reduceSub]
   omega
 rw [key]
 omega
abbrev wM (aA:List aW) (k:Nat):aW:=aA[k]?.getD (0,0,0)
def vn (n:Nat) (aA:List aW) (w:Nat) (row:List UInt8):Prop:=(∀i,i<w→fieldAt n row i<aA.length)∧∀i,i<8*row.length / n→w≤i→fieldAt n row i=0
instance (n:Nat) (aA:List aW) (w:Nat) (row:List UInt8):Decidable (vn n aA w row):=by unfold vn;infer_instance
def iS (n:Nat) (aA:List aW) (row:List UInt8) (i:Nat):aW:=wM aA (fieldAt n row i)
def mX (f:Nat) (aA:List aW) (w:Nat) (row:List UInt8):Option (List UInt8) :=
 if f / 16=3 then some row else if f / 16=2 then some (row.flatMap fun c=>[c,c,c]) else if vn (bitsOf f) aA w row then some (cZ ((List.range w).map (iS (bitsOf f) aA row))) else none
def C9 (aA:List aW) (w:Nat) (px:List UInt8) (i:Nat):Nat:=if i<w then lS aA (dX px i) else 0
def vV (f:Nat) (aA:List aW) (w:Nat) (px:List UInt8):Option (List UInt8) :=
 if f / 16=3 then some px else if f / 16=2 then some ((List.range w).map fun i=>z8 px (3*i)) else if ∀i,i<w→dX px i∈aA then some (qi (bitsOf f) (rowOf f w) (C9 aA w px)) else none
def rB (f w:Nat) (px:List UInt8):Prop:=f / 16=2→∀i,i<w→z8 px (3*i)=z8 px (3*i+1)∧z8 px (3*i)=z8 px (3*i+2)
instance (f w:Nat) (px:List UInt8):Decidable (rB f w px):=by unfold rB;infer_instance
theorem EY {f:Nat} (hf:f<64) (h3:f / 16≠3) (h2:f / 16≠2):(bitsOf f=1∨bitsOf f=4)∧f<32∧kf f=2 ^ bitsOf f:=by
 unfold bitsOf kf
 split
 ·exact ⟨.inl rfl,aa,by rw [if_neg aa]⟩
 ·split
  ·exact ⟨.inr rfl,aa,rfl⟩
  ·omega
theorem GQ (l:List UInt8):(l.flatMap fun c=>[c,c,c])=cZ ((List.range l.length).map fun i=>(z8 l i,z8 l i,z8 l i)):=by
 induction l with
 | nil=>rfl
 | cons c l ih =>
  rw [List.length_cons,List.range_succ_eq_map,List.map_cons,List.map_map,List.flatMap_cons,ih]
  rfl
theorem L8 (p:List aW) (i:Nat) (hi:i<p.length):dX (cZ p) i=p[i]:=by
 have h:=Fi (cZ p) p.length (jm p)
 rw [wN] at h
 have:=congrArg (fun l=>l[i]?) h
 simp only [List.getElem?_map,List.getElem?_range hi,List.getElem?_eq_getElem hi,Option.map_some] at this
 exact (Option.some.inj this).symm
theorem L6 {f w:Nat} {aA:List aW} (hf:f<64) (hp:jg f aA) {row px:List UInt8} (hl:row.length=rowOf f w) (h:mX f aA w row=some px):px.length=3*w∧rB f w px∧vV f aA w px=some row:=by
 unfold mX at h
 unfold vV
 split at h
 ·rename_i h3
  cases h
  have:bitsOf f=24:=by unfold bitsOf;rw [if_neg aa,if_neg aa,if_neg aa]
  unfold rowOf at hl
  rw [this] at hl
  refine ⟨aa,fun q=>by omega,by rw [if_pos h3]⟩
 ·rename_i h3
  split at h
  ·rename_i h2
   cases h
   have:bitsOf f=8:=by unfold bitsOf;rw [if_neg aa,if_neg aa,if_pos h2]
   unfold rowOf at hl
   rw [this] at hl
   have hw:row.length=w:=aa
   rw [GQ]
   have lv:∀i,i<w→dX (cZ ((List.range row.length).map fun i=>(z8 row i,z8 row i,z8 row i))) i=(z8 row i,z8 row i,z8 row i):=by
    intro i hi
    rw [L8 _ i (by simp;omega)]
    simp
   refine ⟨by rw [jm,List.length_map,List.length_range,hw],fun _ i hi=>?_,?_⟩
   ·have:=lv i hi
    simp only [dX,Prod.mk.injEq] at this
    obtain ⟨a,b,c⟩:=this
    rw [a,b,c]
    exact ⟨rfl,rfl⟩
   ·rw [if_neg h3,if_pos h2]
    congr 1
    refine List.ext_getElem? fun k=>?_
    by_cases hk:k<w
    ·rw [List.getElem?_map,List.getElem?_range hk]
     have:=lv k hk
     simp only [dX,Prod.mk.injEq] at this
     simp only [Option.map_some]
     rw [this.1]
     simp [z8,List.getElem?_eq_getElem (show k<row.length by omega)]
    ·rw [List.getElem?_eq_none (by simp;omega),List.getElem?_eq_none aa]
  ·rename_i h2
   split at h
   ·rename_i hok
    cases h
    obtain ⟨hn,h32,hm⟩:=EY hf h3 h2
    obtain ⟨p1,p2,p3⟩:=hp.ind h32
    have ca:∀i,i<w→dX (cZ ((List.range w).map (iS (bitsOf f) aA row))) i=iS (bitsOf f) aA row i:=fun i hi=>by
     rw [L8 _ i (by simp;omega)];simp
    have cp:∀i,i<w→aA[fieldAt (bitsOf f) row i]?=some (iS (bitsOf f) aA row i):=fun i hi=>by
     unfold iS wM
     rw [List.getElem?_eq_getElem (hok.1 i hi)]
     rfl
    refine ⟨by rw [jm,List.length_map,List.length_range],fun q=>absurd q h2,?_⟩
    rw [if_neg h3,if_neg h2,if_pos (fun i hi=>by rw [ca i hi];exact List.mem_of_getElem? (cp i hi))]
    congr 1
    rw [←hl]
    conv=>rhs;rw [←TN hn row]
    unfold qi
    refine List.map_congr_left fun k hk=>?_
    have hk:=List.mem_range.1 hk
    have q:∀i,i<8*row.length / bitsOf f→C9 aA w (cZ ((List.range w).map (iS (bitsOf f) aA row))) i=fieldAt (bitsOf f) row i:=by
     intro i hi
     unfold C9
     split
     ·rename_i pO
      rw [ca i pO]
      exact JJ p3 (cp i pO)
     ·rename_i pO
      exact (hok.2 i hi aa).symm
    congr 1
    unfold byteOf
    rcases hn with e|e
    ·rw [e] at q ⊢
     rw [if_neg ag,if_neg ag,q _ aa,q _ aa,q _ aa,q _ aa,q _ aa,q _ aa,q _ aa,q _ aa]
    ·rw [e] at q ⊢
     rw [if_pos rfl,if_pos rfl,q _ aa,q _ aa]
   ·cases h
abbrev Sv:List UInt8:=[98,105,116,115]
abbrev SG:List UInt8:=[114,111,119,115,32,117,112,119,97,114,100]
abbrev SE:List UInt8:=[114,117,110,115]
abbrev Sx:List UInt8:=[99,111,108,111,114,115]
def rQ (f n:Nat):List jN:=(if bitsOf f=24 then [] else [(Sv,(bitsOf f:Int))])++(if f%2=1 then [(SG,1)] else [])++(if f / 2%2=1 then [(SE,1)] else [])++(if f<32 then [(Sx,(n:Int))] else [])
structure kz where
 wd:Nat
 ht:Nat
 f:Nat
 aA:List aW
 px:List UInt8
def mv (f:Nat):Prop:=f<64∧f%16<4
instance (f:Nat):Decidable (mv f):=by unfold mv;infer_instance
def kn (n:Nat):Prop:=1≤n∧n≤64
instance (f:Nat):Decidable (kn f):=by unfold kn;infer_instance
def turn {α:Type} (f:Nat) (R:List α):List α:=if f%2=1 then R.reverse else R
theorem Xd {α:Type} (f:Nat) (R:List α):turn f (turn f R)=R:=by unfold turn;split<;>simp
theorem Xc {α:Type} (f:Nat) (R:List α):(turn f R).length=R.length:=by unfold turn;split<;>simp
theorem SX {α:Type} {f:Nat} {R:List α} {x:α}:x∈turn f R↔x∈R:=by unfold turn;split<;>simp
def mY (f size:Nat) (B:List UInt8):Option (List UInt8):=if f / 2%2=1 then jI B size else if B.length=size then some B else none
def qp (f:Nat) (aA:List aW) (w h:Nat) (b:List UInt8):Option (List UInt8):=match allM (mX f aA w) (cG (rowOf f w) h b) with
 | none=>none
 | some R=>some (turn f R).flatten
def so (f:Nat) (aA:List aW) (w h:Nat) (B:List UInt8):Option (List UInt8):=match mY f (rowOf f w*h) B with
 | none=>none
 | some b=>qp f aA w h b
def C5 (f:Nat) (aA:List aW) (w h:Nat):List UInt8→Option kz
 | x::y::B=>if 256*x.toNat+y.toNat=B.length then (match so f aA w h B with
  | none=>none
  | some px=>some ⟨w,h,f,aA,px⟩) else none
 | _=>none
def yN (f w h:Nat) (l:List UInt8):Option kz:=if mv f∧kn w∧kn h then (match oL f l with
 | none=>none
 | some (aA,l2)=>C5 f aA w h l2) else none
abbrev vg:List UInt8:=[82,65,83,49]
def jB (b:List UInt8):Option kz:=if b.take 4=vg then (match b.drop 4 with
 | f::w::h::l=>yN f.toNat w.toNat h.toNat l
 | _=>none) else none
def kY (f:Nat) (aA:List aW):List UInt8:=if f=48 then [] else UInt8.ofNat f::ng f aA
def eg (b:List UInt8):Option (ah×List UInt8):=match jB b with
 | none=>none
 | some x=>if (bC (kZ x.wd x.ht x.px)).1≠0 then none else some (kZ x.wd x.ht x.px,kY x.f x.aA)
def yO:List UInt8→Option (Nat×List aW)
 | []=>some (48,[])
 | c::l=>if mv c.toNat∧c.toNat≠48 then (match oL c.toNat l with
  | some (p,[])=>some (c.toNat,p)
  | _=>none) else none
structure zR (v w h p:ah):Prop where
 kind:v.kind=4
 names:v.names=[vu,vp,vq]
 wk:w.kind=1
 hk:h.kind=1
 pk:p.kind=2
 w0:1≤w.num∧w.num≤64
 h0:1≤h.num∧h.num≤64
 p0:p.bytes.length=3*w.num.toNat*h.num.toNat
instance (v w h p:ah):Decidable (zR v w h p):=decidable_of_iff (v.kind=4∧v.names=[vu,vp,vq]∧w.kind=1∧h.kind=1∧p.kind=2∧(1≤w.num∧w.num≤64)∧(1≤h.num∧h.num≤64)∧p.bytes.length=3*w.num.toNat*h.num.toNat) ⟨fun ⟨a,b,c,d,e,f,g,h⟩=>⟨a,b,c,d,e,f,g,h⟩,fun ⟨a,b,c,d,e,f,g,h⟩=>⟨a,b,c,d,e,f,g,h⟩⟩
def sq (v:ah):Option (Nat×Nat×List UInt8):=match v.parts with
 | [w,h,p]=>if zR v w h p then some (w.num.toNat,h.num.toNat,p.bytes) else none
 | _=>none
def JE (f:Nat) (aA:List aW) (w h:Nat) (px:List UInt8):Option (List UInt8):=match allM (vV f aA w) (turn f (cG (3*w) h px)) with
 | none=>none
 | some R=>some (if f / 2%2=1 then fc R.flatten else R.flatten)
def C7 (f:Nat) (aA:List aW) (w h:Nat) (B:List UInt8):List UInt8:=vg++([UInt8.ofNat f,UInt8.ofNat w,UInt8.ofNat h]++(ng f aA++([UInt8.ofNat (B.length / 256),UInt8.ofNat B.length]++B)))
def C8 (f:Nat) (aA:List aW) (w h:Nat) (px:List UInt8):Option (List UInt8):=match JE f aA w h px with
 | none=>none
 | some B=>some (C7 f aA w h B)
noncomputable def va (v:ah) (b:List UInt8):Option (List UInt8):=match sq v,yO b with
 | some (w,h,px),some (f,aA)=>(match C8 f aA w h px with
  | none=>none
  | some o=>if o.length≤1000∧eg o=some (v,b) then some o else none)
 | _,_=>none
def JC (b:List UInt8):Option (List jN):=match yO b with
 | none=>none
 | some (f,aA)=>some (rQ f aA.length)
structure me (b:List UInt8) (x:kz) (B d:List UInt8) (R:List (List UInt8)):Prop where
 fl:mv x.f
 wd:kn x.wd
 ht:kn x.ht
 aA:jg x.f x.aA
 len:B.length<65536
 eq:b=C7 x.f x.aA x.wd x.ht B
 rows:mY x.f (rowOf x.f x.wd*x.ht) B=some d
 T9:allM (mX x.f x.aA x.wd) (cG (rowOf x.f x.wd) x.ht d)=some R
 px:x.px=(turn x.f R).flatten
theorem Jk (c:UInt8):UInt8.ofNat c.toNat=c:=UInt8.ofNat_toNat
theorem C6 {b:List UInt8} {x:kz} (h:jB b=some x):∃B d R,me b x B d R:=by
 unfold jB at h
 split at h
 ·rename_i hm
  split at h
  ·rename_i f w h' l he
   unfold yN at h
   split at h
   ·rename_i hk
    obtain ⟨k1,k2,k3⟩:=hk
    split at h
    ·cases h
    ·rename_i aA l2 hs
     unfold C5 at h
     split at h
     ·rename_i x1 y1 B
      split at h
      ·rename_i hlen
       split at h
       ·cases h
       ·rename_i px hp
        cases h
        unfold so at hp
        split at hp
        ·cases hp
        ·rename_i d hd
         unfold qp at hp
         split at hp
         ·cases hp
         ·rename_i R hR
          cases hp
          obtain ⟨e1,e2⟩:=DW hs
          have hx:=x1.toNat_lt
          have hy:=y1.toNat_lt
          refine ⟨B,d,R,k1,k2,k3,e2,aa,?_,hd,hR,rfl⟩
          have hb:=List.take_append_drop 4 b
          rw [hm,he,e1] at hb
          have q1:UInt8.ofNat (B.length / 256)=x1:=by rw [show B.length / 256=x1.toNat by omega,Jk]
          have q2:UInt8.ofNat B.length=y1:=by
           apply UInt8.toNat_inj.1
           rw [UInt8.toNat_ofNat']
           omega
          rw [←hb]
          unfold C7
          simp only [Jk,q1,q2,List.cons_append,List.nil_append]
      ·cases h
     ·cases h
   ·cases h
  ·cases h
 ·cases h
theorem Kf {f size:Nat} {B d:List UInt8} (h:mY f size B=some d):d.length=size:=by
 unfold mY at h
 split at h
 ·exact (Lz.1 h).1
 ·split at h
  ·rename_i e;cases h;exact e
  ·cases h
theorem Vb {f size:Nat} {B d:List UInt8} (h:mY f size B=some d):B=if f / 2%2=1 then fc d else d:=by
 unfold mY at h
 by_cases hc:f / 2%2=1
 ·rw [if_pos hc] at h ⊢
  exact (Lz.1 h).2.symm
 ·rw [if_neg hc] at h ⊢
  split at h
  ·cases h;rfl
  ·cases h
theorem me.II {b:List UInt8} {x:kz} {B d:List UInt8} {R:List (List UInt8)} (P:me b x B d R):d.length=x.ht*rowOf x.f x.wd:=by rw [Kf P.rows,Nat.mul_comm]
theorem me.row {b:List UInt8} {x:kz} {B d:List UInt8} {R:List (List UInt8)} (P:me b x B d R):R.length=x.ht∧(∀r∈R,r.length=3*x.wd)∧(∀r∈R,rB x.f x.wd r)∧allM (vV x.f x.aA x.wd) R=some (cG (rowOf x.f x.wd) x.ht d):=by
 obtain ⟨h1,h2⟩:=te P.T9
 rw [mZ] at h1
 have key:∀(i:Nat) (r:List UInt8),R[i]?=some r→r.length=3*x.wd∧rB x.f x.wd r∧∃y,(cG (rowOf x.f x.wd) x.ht d)[i]?=some y∧vV x.f x.aA x.wd r=some y:=by
  intro i r hi
  obtain ⟨hlt,_⟩:=List.getElem?_eq_some_iff.1 hi
  have hy:(cG (rowOf x.f x.wd) x.ht d)[i]?=some ((cG (rowOf x.f x.wd) x.ht d)[i]'(by rw [mZ];omega)):=List.getElem?_eq_getElem _
  obtain ⟨a,b,c⟩:=L6 P.fl.1 P.aA (DF P.II (List.mem_of_getElem? hy)) (h2 i _ _ hy hi)
  exact ⟨a,b,_,hy,c⟩
 refine ⟨h1,fun r hr=>?_,fun r hr=>?_,?_⟩
 ·obtain ⟨i,hi,rfl⟩:=List.mem_iff_getElem.1 hr
  exact (key i _ (List.getElem?_eq_getElem hi)).1
 ·obtain ⟨i,hi,rfl⟩:=List.mem_iff_getElem.1 hr
  exact (key i _ (List.getElem?_eq_getElem hi)).2.1
 ·refine qU (by rw [mZ,h1]) fun i r y hr hy=>?_
  obtain ⟨_,_,y',Iv,hw⟩:=key i r hr
  rw [hy] at Iv
  cases Iv
  exact hw
theorem me.yS {b:List UInt8} {x:kz} {B d:List UInt8} {R:List (List UInt8)} (P:me b x B d R):x.px.length=x.ht*(3*x.wd)∧cG (3*x.wd) x.ht x.px=turn x.f R:=by
 obtain ⟨r1,r2,_⟩:=P.row
 have:=xg (s:=3*x.wd) (R:=turn x.f R) fun r hr=>r2 r (SX.1 hr)
 rw [Xc,r1,←P.px] at this
 exact this
theorem me.write {b:List UInt8} {x:kz} {B d:List UInt8} {R:List (List UInt8)} (P:me b x B d R):C8 x.f x.aA x.wd x.ht x.px=some b:=by
 obtain ⟨r1,r2,r3,r4⟩:=P.row
 unfold C8 JE
 rw [P.yS.2,Xd,r4]
 simp only
 rw [DE P.II,←Vb P.rows,←P.eq]
theorem JD {f:Nat} {aA:List aW} (h:mv f) (hp:jg f aA):yO (kY f aA)=some (f,aA):=by
 unfold kY
 split
 ·rename_i e
  subst e
  rw [hp.non aa]
  rfl
 ·rename_i e
  have h1:=h.1
  have e1:(UInt8.ofNat f).toNat=f:=by rw [UInt8.toNat_ofNat'];omega
  unfold yO
  simp only
  rw [e1,if_pos ⟨h,e⟩]
  have:=Wp [] hp
  rw [List.append_nil] at this
  rw [this]
theorem T4 {w h:Nat} {b:List UInt8} (h1:kn w) (h2:kn h) (h3:b.length=3*w*h):sq (kZ w h b)=some (w,h,b):=by
 unfold sq
 show (if zR (kZ w h b) (.mk 1 w [] [] []) (.mk 1 h [] [] []) (.mk 2 0 b [] []) then _ else _)=_
 unfold kn at h1 h2
 rw [if_pos]
 ·simp
 ·exact ⟨rfl,rfl,rfl,rfl,rfl,by show (1:Int)≤w∧(w:Int)≤64;omega,by show (1:Int)≤h∧(h:Int)≤64;omega,by show b.length=3*(w:Int).toNat*(h:Int).toNat;simpa using h3⟩
theorem JF {b:List UInt8} {v:ah} {r:List UInt8} (h:eg b=some (v,r)):∃x,jB b=some x∧(bC v).1=0∧v=kZ x.wd x.ht x.px∧r=kY x.f x.aA:=by
 unfold eg at h
 split at h
 ·cases h
 ·rename_i x hx
  split at h
  ·cases h
  ·rename_i h0
   cases h
   exact ⟨x,hx,Decidable.not_not.1 h0,rfl,rfl⟩
theorem T6 {b:List UInt8} {v:ah} {r:List UInt8} (hl:b.length≤1000) (h:eg b=some (v,r)):va v r=some b:=by
 obtain ⟨x,hx,p5,hv,hr⟩:=JF h
 obtain ⟨B,d,R,P⟩:=C6 hx
 have hsh:sq v=some (x.wd,x.ht,x.px):=by
  rw [hv]
  exact T4 P.wd P.ht (by rw [P.yS.1];simp [Nat.mul_comm,Nat.mul_left_comm])
 unfold va
 rw [hsh,hr,JD P.fl P.aA]
 simp only
 rw [P.write]
 simp only
 rw [if_pos ⟨hl,by rw [←hr];exact h⟩]
def G2 (f w h:Nat) (px:List UInt8):Prop:=∀r∈cG (3*w) h px,rB f w r
instance (f w h:Nat) (px:List UInt8):Decidable (G2 f w h px):=by unfold G2;infer_instance
theorem Ss {f n:Nat} (hf:f<64) (h16:f%16<4):rQ f n=[]↔f=48:=by
 have hb:bitsOf f=24↔f / 16=3:=by
  unfold bitsOf
  split
  ·omega
  ·split
   ·omega
   ·split<;>omega
 unfold rQ
 constructor
 ·intro h
  obtain ⟨h,h4⟩:=List.append_eq_nil_iff.1 h
  obtain ⟨h,h3⟩:=List.append_eq_nil_iff.1 h
  obtain ⟨h1,h2⟩:=List.append_eq_nil_iff.1 h
  split at h1
  ·split at h2
   ·cases h2
   ·split at h3
    ·cases h3
    ·have:=hb.1 (by assumption)
     omega
  ·cases h1
 ·rintro rfl
  simp [bitsOf]
theorem Sr (f n:Nat):(rQ f n).length≤4:=by
 unfold rQ
 simp only [List.length_append]
 split<;>split<;>split<;>split<;>simp
theorem T3 {f:Nat} {aA:List aW}:kY f aA=[]↔f=48:=by
 unfold kY
 split
 ·rename_i h;exact ⟨fun _=>h,fun _=>rfl⟩
 ·rename_i h;exact ⟨fun q=>absurd q ae,fun q=>absurd q h⟩
theorem T1 {f:Nat} {aA:List aW} (hp:jg f aA):(kY f aA).length≤50:=by
 have:=Wo hp
 unfold kY
 split
 ·simp
 ·simp;omega
theorem T8 {b:List UInt8} {v:ah} {r:List UInt8} (hl:b.length≤1000) (h:eg b=some (v,r)):VB 1048576 v∧(bC v).1=0∧(sq v).isSome=true∧va v r=some b∧r.length≤100000000∧∃ls,JC r=some ls∧ls.length≤4∧(ls=[]↔r=[]):=by
 have cr:=T6 hl h
 obtain ⟨x,hx,p5,hv,hr⟩:=JF h
 obtain ⟨B,d,R,P⟩:=C6 hx
 obtain ⟨w1,w2⟩:=P.wd
 obtain ⟨h1,h2⟩:=P.ht
 have jx:=P.yS.1
 have hm:x.ht*(3*x.wd)≤64*192:=Nat.mul_le_mul h2 aa
 have:=T1 P.aA
 refine ⟨?_,p5,?_,cr,by rw [hr];omega,rQ x.f x.aA.length,?_,Sr _ _,?_⟩
 ·rw [hv]
  exact LK (by constructor<;>omega) (by constructor<;>omega) aa
 ·cases hs:sq v with
  | none=>unfold va at cr;rw [hs] at cr;cases cr
  | some y=>rfl
 ·rw [hr]
  unfold JC
  rw [JD P.fl P.aA]
 ·rw [hr,Ss P.fl.1 P.fl.2,T3]
abbrev aO:=List UInt8×Bool
def aE (n:Nat):UInt8:=if n=0 then 44 else if n=1 then 59 else 9
def aZ (k:Bool):List UInt8:=if k=true then [13,10] else [10]
def jH (s c:UInt8):Bool:=decide (c=s)||decide (c=34)||decide (c=13)||decide (c=10)
def cO (s:UInt8) (x:List UInt8):Bool:=x.any (jH s)
def fH:List UInt8→List UInt8
 | []=>[]
 | c::t=>if c=34 then 34::34::fH t else c::fH t
def lR (c:aO):List UInt8:=if c.2=true then 34::(fH c.1++[34]) else c.1
def om (s:UInt8) (c:aO):Prop:=c.2=true∨cO s c.1=false
def fO (s:UInt8):List aO→List UInt8
 | []=>[]
 | [c]=>lR c
 | c::d::r=>lR c++s::fO s (d::r)
def eY (s:UInt8) (e:List UInt8) (o:Bool):List (List aO)→List UInt8
 | []=>[]
 | [r]=>fO s r++(if o=true then [] else e)
 | r::q::R=>fO s r++(e++eY s e o (q::R))
def cE:List UInt8→Option (List UInt8×List UInt8)
 | []=>none
 | [c]=>if c=34 then some ([],[]) else none
 | c::d::t=>if c=34 then (if d=34 then (match cE t with
   | none=>none
   | some p=>some (34::p.1,p.2)) else some ([],d::t)) else (match cE (d::t) with
   | none=>none
   | some p=>some (c::p.1,p.2))
def dQ (s:UInt8):List UInt8→List UInt8×List UInt8
 | []=>([],[])
 | c::t=>if jH s c=true then ([],c::t) else (c::(dQ s t).1,(dQ s t).2)
def jC (s:UInt8) (l:List UInt8):Option (aO×List UInt8) :=
 if l.head?=some 34 then (match cE l.tail with
  | none=>none
  | some p=>some ((p.1,true),p.2))
 else if (dQ s l).2.head?=some 34 then none else some (((dQ s l).1,false),(dQ s l).2)
theorem vj:∀ {l x t:List UInt8},cE l=some (x,t)→l=fH x++34::t∧t.head?≠some 34
 | [],x,t,h=>by cases h
 | [c],x,t,h=>by
  unfold cE at h
  split at h
  ·rename_i hc
   cases h
   rw [hc]
   exact ⟨rfl,ae⟩
  ·cases h
 | c::d::r,x,t,h=>by
  unfold cE at h
  split at h
  ·rename_i hc
   split at h
   ·rename_i hd
    split at h
    ·cases h
    ·rename_i p hp
     cases h
     obtain ⟨h1,h2⟩:=vj (x:=p.1) (t:=p.2) hp
     refine ⟨?_,h2⟩
     rw [hc,hd,fH,if_pos rfl,h1]
     rfl
   ·rename_i hd
    cases h
    rw [hc]
    exact ⟨rfl,by simpa using hd⟩
  ·rename_i hc
   split at h
   ·cases h
   ·rename_i p hp
    cases h
    obtain ⟨h1,h2⟩:=vj (x:=p.1) (t:=p.2) hp
    refine ⟨?_,h2⟩
    rw [fH,if_neg hc,h1]
    rfl
theorem J4:∀(x:List UInt8) {t:List UInt8},t.head?≠some 34→cE (fH x++34::t)=some (x,t)
 | [],[],_=>rfl
 | [],d::t,h=>by
  show cE (34::d::t)=_
  unfold cE
  rw [if_pos rfl,if_neg (by simpa using h)]
 | c::x,t,h=>by
  have ih:=J4 x h
  unfold fH
  split
  ·rename_i hc
   show cE (34::34::(fH x++34::t))=_
   unfold cE
   rw [if_pos rfl,if_pos rfl,ih,hc]
  ·rename_i hc
   show cE (c::(fH x++34::t))=_
   obtain ⟨d,r,hd⟩:∃d r,fH x++34::t=d::r:=by
    cases he:fH x++34::t with
    | nil=>simp at he
    | cons d r=>exact ⟨d,r,rfl⟩
   rw [hd] at ih ⊢
   unfold cE
   rw [if_neg hc,ih]
theorem vI (s:UInt8):∀(l:List UInt8),l=(dQ s l).1++(dQ s l).2∧cO s (dQ s l).1=false
 | []=>⟨rfl,rfl⟩
 | c::t=>by
  unfold dQ
  obtain ⟨h1,h2⟩:=vI s t
  split
  ·exact ⟨rfl,rfl⟩
  ·rename_i hc
   refine ⟨by (conv=>lhs;rw [h1]);rfl,?_⟩
   unfold cO at h2 ⊢
   rw [List.any_cons,h2]
   simpa using hc
theorem D6 {s:UInt8}:∀ {x t:List UInt8},cO s x=false→(t=[]∨∃h r,t=h::r∧jH s h=true)→dQ s (x++t)=(x,t)
 | [],t,_,h=>by
  rcases h with rfl|⟨c,r,rfl,hc⟩
  ·rfl
  ·show dQ s (c::r)=_
   unfold dQ
   rw [if_pos hc]
 | c::x,t,hn,h=>by
  unfold cO at hn
  rw [List.any_cons,Bool.or_eq_false_iff] at hn
  have ih:=D6 (x:=x) hn.2 h
  show dQ s (c::(x++t))=_
  unfold dQ
  rw [if_neg (by rw [hn.1];decide),ih]
theorem J1 {s:UInt8} {l:List UInt8} {c:aO} {t:List UInt8} (h:jC s l=some (c,t)):l=lR c++t∧om s c∧t.head?≠some 34:=by
 unfold jC at h
 split at h
 ·rename_i hh
  split at h
  ·cases h
  ·rename_i p hp
   cases h
   obtain ⟨h1,h2⟩:=vj (x:=p.1) (t:=p.2) hp
   refine ⟨?_,.inl rfl,h2⟩
   cases l with
   | nil=>cases hh
   | cons d l =>
    cases hh
    rw [List.tail_cons] at h1
    rw [h1]
    simp [lR]
 ·split at h
  ·cases h
  ·rename_i h2
   cases h
   obtain ⟨h3,h4⟩:=vI s l
   exact ⟨h3,.inr h4,h2⟩
theorem Dl {s:UInt8} {l:List UInt8} {c:aO} {t:List UInt8} (h:jC s l=some (c,t)):t.length≤l.length:=by
 rw [(J1 h).1,List.length_append]
 omega
def jD (s:UInt8) (e:List UInt8):Nat→List (List aO)→List aO→List UInt8→Option (List (List aO)×Bool)
 | 0,_,_,_=>none
 | n+1,R,r,l=>match jC s l with
  | none=>none
  | some (c,t)=>if t=[] then some (R++[r++[c]],true)
   else if t.take e.length=e then (if t.drop e.length=[] then some (R++[r++[c]],false) else jD s e n (R++[r++[c]]) [] (t.drop e.length))
   else if t.head?=some s then jD s e n R (r++[c]) t.tail else none
theorem yY {s:UInt8} {e:List UInt8} (he:e≠[]):∀ {n m:Nat} {R:List (List aO)} {r:List aO} {l:List UInt8},l.length<n→l.length<m→jD s e n R r l=jD s e m R r l
 | 0,m,R,r,l,h,_=>by omega
 | n+1,0,R,r,l,_,h=>by omega
 | n+1,m+1,R,r,l,h1,h2=>by
  have hel:=List.length_pos_iff.2 he
  unfold jD
  cases hc:jC s l with
  | none=>rfl
  | some p =>
   obtain ⟨c,t⟩:=p
   have hl:=Dl hc
   simp only
   by_cases ht:t=[]
   ·rw [if_pos ht,if_pos ht]
   ·have htl:=List.length_pos_iff.2 ht
    rw [if_neg ht,if_neg ht]
    by_cases h3:t.take e.length=e
    ·rw [if_pos h3,if_pos h3]
     by_cases h4:t.drop e.length=[]
     ·rw [if_pos h4,if_pos h4]
     ·rw [if_neg h4,if_neg h4]
      exact yY he (by rw [List.length_drop];omega) (by rw [List.length_drop];omega)
    ·rw [if_neg h3,if_neg h3]
     by_cases h4:t.head?=some s
     ·rw [if_pos h4,if_pos h4]
      exact yY he (by rw [List.length_tail];omega) (by rw [List.length_tail];omega)
     ·rw [if_neg h4,if_neg h4]
def gd (s:UInt8) (e:List UInt8) (R:List (List aO)) (r:List aO) (l:List UInt8):Option (List (List aO)×Bool):=jD s e (l.length+1) R r l
def mW (s:UInt8) (e:List UInt8) (R:List (List aO)) (l:List UInt8):Option (List (List aO)×Bool):=if l=[] then some (R,false) else gd s e R [] l
section
variable {s:UInt8} {e:List UInt8} {R:List (List aO)} {r:List aO} {l t:List UInt8} {c:aO}
theorem yW (h:jC s l=none):gd s e R r l=none:=by
 unfold gd jD
 rw [h]
theorem Dn (h:jC s l=some (c,[])):gd s e R r l=some (R++[r++[c]],true):=by
 unfold gd jD
 rw [h]
 rfl
theorem Dp (he:e≠[]) (h:jC s l=some (c,t)) (h2:t.take e.length=e):gd s e R r l=mW s e (R++[r++[c]]) (t.drop e.length):=by
 have hel:=List.length_pos_iff.2 he
 have hl:=Dl h
 have htl:0<t.length:=by
  have:=congrArg List.length h2
  rw [List.length_take] at this
  omega
 unfold gd jD
 rw [h]
 simp only
 rw [if_neg (List.ne_nil_of_length_pos htl),if_pos h2]
 unfold mW
 by_cases h4:t.drop e.length=[]
 ·rw [if_pos h4,if_pos h4]
 ·rw [if_neg h4,if_neg h4]
  unfold gd
  exact yY he (by rw [List.length_drop];omega) aa
theorem Dq (he:e≠[]) (h:jC s l=some (c,s::t)) (h2:(s::t).take e.length≠e):gd s e R r l=gd s e R (r++[c]) t:=by
 have hl:=Dl h
 rw [List.length_cons] at hl
 unfold gd
 conv=>lhs;unfold jD
 rw [h]
 simp only
 rw [if_neg ae,if_neg h2,if_pos List.head?_cons,List.tail_cons]
 exact yY he aa aa
theorem Dr (h:jC s l=some (c,t)) (h1:t≠[]) (h2:t.take e.length≠e) (h3:t.head?≠some s):gd s e R r l=none:=by
 unfold gd jD
 rw [h]
 simp only
 rw [if_neg h1,if_neg h2,if_neg h3]
end
structure Mp (s:UInt8) (e:List UInt8) (R:List (List aO)) (r:List aO) (l:List UInt8) (X:List (List aO)) (o:Bool):Prop where
 ex:∃(q:List aO) (Q:List (List aO)),q≠[]∧X=R++(r++q)::Q∧l=eY s e o (q::Q)∧(∀a∈q::Q,a≠[]∧∀c∈a,om s c)
theorem Dv {s:UInt8} {e:List UInt8}:∀ {n:Nat} {R:List (List aO)} {r:List aO} {l:List UInt8} {X:List (List aO)} {o:Bool},jD s e n R r l=some (X,o)→Mp s e R r l X o
 | 0,R,r,l,X,o,h=>by cases h
 | n+1,R,r,l,X,o,h=>by
  unfold jD at h
  split at h
  ·cases h
  ·rename_i c t hc
   obtain ⟨h1,h2,h3⟩:=J1 hc
   have hone:∀a∈[[c]],a≠[]∧∀x∈a,om s x:=fun a ha=>by
    rw [List.mem_singleton.1 ha]
    exact ⟨ae,fun x hx=>by rw [List.mem_singleton.1 hx];exact h2⟩
   split at h
   ·rename_i ht
    cases h
    exact ⟨[c],[],ae,rfl,by rw [h1,ht];rfl,hone⟩
   ·split at h
    ·rename_i h4
     have kR:t=e++t.drop e.length:=by
      conv=>lhs;rw [←List.take_append_drop e.length t,h4]
     split at h
     ·rename_i h5
      cases h
      refine ⟨[c],[],ae,rfl,?_,hone⟩
      rw [h1,kR,h5,List.append_nil]
      rfl
     ·obtain ⟨q,Q,q1,q2,q3,q4⟩:=(Dv h).ex
      refine ⟨[c],q::Q,ae,?_,?_,fun a ha=>?_⟩
      ·rw [q2,List.append_assoc,List.nil_append]
       rfl
      ·conv=>lhs;rw [h1,kR,q3]
       rfl
      ·rcases List.mem_cons.1 ha with rfl|ha
       ·exact hone _ ae
       ·exact q4 a ha
    ·split at h
     ·rename_i h5
      have kR:t=s::t.tail:=by
       cases t with
       | nil=>cases h5
       | cons d t=>cases h5;rfl
      obtain ⟨q,Q,q1,q2,q3,q4⟩:=(Dv h).ex
      refine ⟨c::q,Q,ae,?_,?_,fun a ha=>?_⟩
      ·rw [q2,List.append_assoc]
       rfl
      ·rw [h1,kR,q3]
       have e1:fO s (c::q)=lR c++s::fO s q:=by
        cases q with
        | nil=>exact absurd rfl q1
        | cons d q=>rfl
       cases Q with
       | nil =>
        show _=fO s (c::q)++_
        rw [e1]
        simp [eY]
       | cons p Q =>
        show _=fO s (c::q)++_
        rw [e1]
        simp [eY]
      ·rcases List.mem_cons.1 ha with rfl|ha
       ·refine ⟨ae,fun x hx=>?_⟩
        rcases List.mem_cons.1 hx with rfl|hx
        ·exact h2
        ·exact (q4 q ae).2 x hx
       ·exact q4 a (by simp [ha])
     ·cases h
def eh (s:UInt8) (e:List UInt8) (l:List UInt8):Option (List (List aO)×Bool):=mW s e [] l
theorem Dm {s:UInt8} {e l:List UInt8} {X:List (List aO)} {o:Bool} (h:eh s e l=some (X,o)):l=eY s e o X∧∀a∈X,a≠[]∧∀c∈a,om s c:=by
 unfold eh mW at h
 split at h
 ·rename_i hl
  cases h
  exact ⟨hl,ae⟩
 ·obtain ⟨q,Q,q1,q2,q3,q4⟩:=(Dv h).ex
  rw [q2]
  exact ⟨q3,q4⟩
def qn (s:UInt8):Nat→List aO→List Nat
 | _,[]=>[]
 | k,c::r=>(if (c.2&&!cO s c.1)=true then [k] else [])++qn s (k+1) r
theorem JS {s:UInt8} {c:aO}:∀ {r:List aO} {k:Nat},qn s k (r++[c])=qn s k r++(if (c.2&&!cO s c.1)=true then [k+r.length] else [])
 | [],k=>by simp [qn]
 | d::r,k=>by
  show (if _ then [k] else [])++qn s (k+1) (r++[c])=_
  rw [JS (r:=r),qn,List.append_assoc,List.length_cons]
  simp only [Nat.add_comm,Nat.add_left_comm]
theorem Df {s:UInt8}:∀ {r:List aO} {k j:Nat},j∈qn s k r↔∃i c,r[i]?=some c∧j=k+i∧(c.2&&!cO s c.1)=true
 | [],k,j=>by simp [qn]
 | d::r,k,j=>by
  unfold qn
  rw [List.mem_append,Df (r:=r)]
  constructor
  ·rintro (h|⟨i,c,h1,h2,h3⟩)
   ·split at h
    ·rename_i hd
     exact ⟨0,d,rfl,by simpa using h,hd⟩
    ·simp at h
   ·exact ⟨i+1,c,h1,aa,h3⟩
  ·rintro ⟨i,c,h1,h2,h3⟩
   cases i with
   | zero =>
    cases h1
    left
    rw [if_pos h3]
    simpa using h2
   | succ i=>exact .inr ⟨i,c,h1,aa,h3⟩
theorem JP {s:UInt8}:∀ {r:List aO} {k:Nat},(qn s k r).Pairwise (· < ·)∧∀n∈qn s k r,k≤n∧n<k+r.length
 | [],k=>by simp [qn]
 | d::r,k=>by
  obtain ⟨h1,h2⟩:=JP (s:=s) (r:=r) (k:=k+1)
  unfold qn
  split
  ·refine ⟨List.pairwise_cons.2 ⟨fun n hn=>?_,h1⟩,fun n hn=>?_⟩
   ·have:=h2 n hn
    omega
   ·rcases List.mem_cons.1 hn with rfl|hn
    ·simp
    ·have:=h2 n hn
     simp only [List.length_cons]
     omega
  ·refine ⟨h1,fun n hn=>?_⟩
   have:=h2 n hn
   simp only [List.length_cons]
   omega
theorem JQ {s:UInt8}:∀ {r:List aO} {k:Nat},(qn s k r).length≤r.length
 | [],_=>by simp [qn]
 | d::r,k=>by
  have:=JQ (s:=s) (r:=r) (k:=k+1)
  unfold qn
  split<;>simp<;>omega
def EA (s:UInt8) (Z:List Nat) (k:Nat) (x:List UInt8):aO:=(x,cO s x||Z.contains k)
def uV (s:UInt8) (Z:List Nat):Nat→List (List UInt8)→List aO
 | _,[]=>[]
 | k,x::r=>EA s Z k x::uV s Z (k+1) r
def uU (s:UInt8) (Z:List Nat):Nat→List (List (List UInt8))→List (List aO)
 | _,[]=>[]
 | k,r::R=>uV s Z k r::uU s Z (k+r.length) R
theorem I7 {s:UInt8} {Z:List Nat}:∀ {r:List aO} {k:Nat},(∀i c,r[i]?=some c→Z.contains (k+i)=(c.2&&!cO s c.1))→(∀c∈r,om s c)→uV s Z k (r.map Prod.fst)=r
 | [],_,_,_=>rfl
 | c::r,k,h,hok=>by
  show EA s Z k c.1::uV s Z (k+1) (r.map Prod.fst)=_
  rw [I7 (r:=r) (fun i d hd=>by
   have:=h (i+1) d hd
   rwa [show k+(i+1)=k+1+i by omega] at this) fun d hd=>hok d (by simp [hd])]
  have h0:=h 0 c rfl
  rw [Nat.add_zero] at h0
  congr 1
  obtain ⟨x,q⟩:=c
  unfold EA
  rw [h0]
  rcases hok (x,q) ae with h1|h1
  ·dsimp only at h1 ⊢
   rw [h1]
   cases cO s x<;>rfl
  ·dsimp only at h1 ⊢
   rw [h1]
   simp
theorem I6 {s:UInt8} {Z:List Nat}:∀ {R:List (List aO)} {k:Nat},(∀i c,R.flatten[i]?=some c→Z.contains (k+i)=(c.2&&!cO s c.1))→(∀r∈R,∀c∈r,om s c)→uU s Z k (R.map fun r=>r.map Prod.fst)=R
 | [],_,_,_=>rfl
 | r::R,k,h,hok=>by
  show uV s Z k (r.map Prod.fst)::uU s Z (k+(r.map Prod.fst).length) (R.map fun r=>r.map Prod.fst)=_
  rw [List.length_map,I7 (fun i c hc=>h i c (by rw [List.flatten_cons,List.getElem?_append_left (List.getElem?_eq_some_iff.1 hc).1];exact hc)) (hok r ae),
   I6 (R:=R) (fun i c hc=>by
    have:=h (r.length+i) c (by rw [List.flatten_cons,List.getElem?_append_right aa,show r.length+i - r.length=i by omega];exact hc)
    rwa [←Nat.add_assoc] at this) fun q hq=>hok q (by simp [hq])]
theorem SS {s:UInt8} {R:List (List aO)} (hok:∀r∈R,∀c∈r,om s c):uU s (qn s 0 R.flatten) 0 (R.map fun r=>r.map Prod.fst)=R :=
 I6 (fun i c hc=>by
  by_cases h:(c.2&&!cO s c.1)=true
  ·rw [h,List.contains_iff_mem]
   exact Df.2 ⟨i,c,hc,rfl,h⟩
  ·rw [Bool.eq_false_iff.2 h,Bool.eq_false_iff]
   intro h2
   rw [List.contains_iff_mem] at h2
   obtain ⟨j,d,h3,h4,h5⟩:=Df.1 h2
   obtain rfl:i=j:=aa
   rw [hc] at h3
   cases h3
   exact h h5) hok
end Go.Proofs.YtmoiobegbpkkbaaGreatDoor
