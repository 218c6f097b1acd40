import Derived.Test.YtmoiobegbpkkbaaGreatDoorKAH
import Derived.Lib.IndexLaws
import Derived.Laws.IdiomCopy
import Derived.ChangeKeysEq
namespace Go.Proofs.YtmoiobegbpkkbaaGreatDoor
open Go Go.RowKit
set_option maxRecDepth 100000
set_option maxHeartbeats 8000000
abbrev aR:=Int×Int
abbrev cR (r:bK):aR:=((r.1:Int),(r.2:Int))
def aC (rs:List bK):List aR:=rs.map cR
def dN (r:aR):List UInt8:=ax r.1++ax r.2
def ff (l:List UInt8) (p:Nat):fV aR :=
 match cC l p with
 | .bad c i=>.bad c i
 | .ok n q=>match cC l q with
  | .bad c i=>.bad c i
  | .ok m r=>.ok (n,m) r
theorem Vd {x:aR} (h1:bI x.1) (h2:bI x.2) {l r:List UInt8} {p:Nat} (hp:p≤l.length) (h:l.drop p=dN x++r):ff l p=.ok x (p+(dN x).length):=by
 have e:l=l.take p++(dN x++r):=by rw [←h,List.take_append_drop]
 have hpl:(l.take p).length=p:=by simp;omega
 unfold dN at e
 have n1:=gS h1.1 h1.2 (l.take p) (ax x.2++r)
 rw [hpl,show l.take p++(ax x.1++(ax x.2++r))=l by rw [List.append_assoc] at e;exact e.symm] at n1
 have n2:=gS h2.1 h2.2 (l.take p++ax x.1) r
 rw [show l.take p++ax x.1++(ax x.2++r)=l by rw [List.append_assoc] at e ⊢;exact e.symm,List.length_append,hpl] at n2
 unfold ff
 rw [n1]
 simp only
 rw [n2]
 simp only [dN,List.length_append]
 congr 1
 omega
theorem zc {l:List UInt8} {p q:Nat} {x:aR} (hp:p≤l.length) (h:ff l p=.ok x q):p+2≤q∧q≤l.length∧l.drop p=dN x++l.drop q∧bI x.1∧bI x.2:=by
 unfold ff at h
 split at h
 ·cases h
 ·rename_i n q1 h1
  split at h
  ·cases h
  ·rename_i m r h2
   cases h
   obtain ⟨a1,a2,_,a3⟩:=kW hp h1
   have a4:=yy hp h1
   obtain ⟨b1,b2,_,b3⟩:=kW aa h2
   have b4:=yy aa h2
   refine ⟨aa,b2,?_,a3,b3⟩
   rw [a4,b4,dN,List.append_assoc]
def fa (left p:Int):List aR→Bool
 | []=>true
 | x::r=>decide (0≤x.1∧x.1<3∧1≤x.2∧x.2≤left∧x.1≠p)&&fa (left - x.2) x.1 r
def jz (left:Int):List aR→Int
 | []=>left
 | x::r=>jz (left - x.2) r
def lL (p:Int):List aR→Int
 | []=>p
 | x::r=>lL x.1 r
theorem CT:∀(l k:List aR) (a p:Int),fa a p (l++k)=(fa a p l&&fa (jz a l) (lL p l) k)
 | [],_,_,_=>by simp [fa,jz,lL]
 | x::l,k,a,p=>by simp only [List.cons_append,fa,jz,lL,CT l k,Bool.and_assoc]
theorem IG:∀(l:List aR) (a:Int) (x:aR),jz a (l++[x])=jz a l - x.2
 | [],_,_=>rfl
 | y::l,a,x=>IG l _ x
theorem IF:∀(l:List aR) (p:Int) (x:aR),lL p (l++[x])=x.1
 | [],_,_=>rfl
 | y::l,a,x=>IF l _ x
theorem Jm:∀ {l:List aR} {a p:Int},fa a p l=true→0≤a→(l.length:Int)≤a∧0≤jz a l∧jz a l≤a
 | [],a,_,_,h=>⟨by simpa using h,h,Int.le_refl _⟩
 | x::l,a,p,h,h0=>by
  simp only [fa,Bool.and_eq_true,decide_eq_true_eq] at h
  obtain ⟨⟨h1,h2,h3,h4,_⟩,h5⟩:=h
  obtain ⟨g1,g2,g3⟩:=Jm h5 aa
  simp only [List.length_cons,jz]
  refine ⟨aa,g2,aa⟩
theorem Ty {l k:List aR} {a p:Int} {x:aR} (h:¬(0≤x.1∧x.1<3∧1≤x.2∧x.2≤jz a l∧x.1≠lL p l)):fa a p (l++x::k)=false:=by
 rw [CT,fa,decide_eq_false h]
 simp
theorem CU:∀ {l:List aR} {a:Int} {p:Nat},fa a p l=true→0≤a→∃rs,l=aC rs∧lX p rs∧(eC rs:Int)≤a
 | [],a,p,_,h=>⟨[],rfl,trivial,by simpa [eC] using h⟩
 | x::l,a,p,h,h0=>by
  simp only [fa,Bool.and_eq_true,decide_eq_true_eq] at h
  obtain ⟨⟨h1,h2,h3,h4,h6⟩,h5⟩:=h
  obtain ⟨k,n⟩:=x
  dsimp only at h1 h2 h3 h4 h5 h6
  obtain ⟨k,rfl⟩:∃j:Nat,k=j:=⟨k.toNat,aa⟩
  obtain ⟨n,rfl⟩:∃j:Nat,n=j:=⟨n.toNat,aa⟩
  obtain ⟨rs,g1,g2,g3⟩:=CU h5 aa
  refine ⟨(k,n)::rs,by rw [g1];rfl,⟨by show k<3;omega,by show 1≤n;omega,by show k≠p;omega,g2⟩,?_⟩
  have:eC ((k,n)::rs)=n+eC rs:=by simp [eC]
  rw [this]
  omega
theorem Jn:∀ {rs:List bK} {a:Int} {p:Nat},lX p rs→(eC rs:Int)≤a→fa a p (aC rs)=true
 | [],_,_,_,_=>rfl
 | (k,n)::rs,a,p,h,ha=>by
  obtain ⟨h1,h2,h3,h4⟩:=h
  dsimp only at h1 h2 h3 h4
  have e:eC ((k,n)::rs)=n+eC rs:=by simp [eC]
  rw [e] at ha
  show (decide (0≤(k:Int)∧(k:Int)<3∧1≤(n:Int)∧(n:Int)≤a∧(k:Int)≠p)&&fa (a - n) k (aC rs))=true
  rw [Jn h4 aa,decide_eq_true aa]
  rfl
theorem sC:∀ {rs:List bK} {p:Nat},lX p rs→rs.length≤eC rs∧∀r∈rs,r.1<3∧r.2≤eC rs
 | [],_,_=>⟨Nat.le_refl _,ae⟩
 | (k,n)::rs,p,h=>by
  obtain ⟨h1,h2,h3,h4⟩:=h
  obtain ⟨g1,g2⟩:=sC h4
  have e:eC ((k,n)::rs)=n+eC rs:=by simp [eC]
  dsimp only at h1 h2
  rw [e]
  refine ⟨by simp only [List.length_cons];omega,fun r hr=>?_⟩
  rcases List.mem_cons.1 hr with rfl|hr
  ·exact ⟨h1,by dsimp only;omega⟩
  ·have:=g2 r hr
   exact ⟨this.1,aa⟩
abbrev CL (r:aR):bK:=(r.1.toNat,r.2.toNat)
theorem CM (rs:List bK):(aC rs).map CL=rs:=by
 unfold aC
 rw [List.map_map]
 conv=>rhs;rw [←List.map_id rs]
 exact List.map_congr_left fun x _=>by obtain ⟨a,b⟩:=x;simp
def l8 (b:List UInt8):Option (Nat×List bK):=match cC b 0 with
 | .bad _ _=>none
 | .ok e p=>if e<0∨5≤e then none else match dK b (ff b) b.length p with
  | .bad _ _=>none
  | .ok rs q=>if q≠b.length then none else if fa 1000 3 rs=true then some (e.toNat,rs.map CL) else none
def eu (e:Nat) (ks:List Nat):Bool:=decide (e=0)&&ks.all (· == 0)
def gk (b:List UInt8):Option (Nat×List bK):=if b=[] then some (0,[]) else match l8 b with
 | none=>none
 | some (e,rs)=>if eu e (bP rs)=true then none else some (e,rs)
def lk (e:Nat) (rs:List bK):List UInt8:=ax e++bj dN (aC rs)
def iz (e:Nat) (ks:List Nat):List UInt8:=if eu e ks=true then [] else lk e (bN ks)
theorem Vf (x:aR):2≤(dN x).length:=by
 have:=kh (zz x.1)
 have:=kh (zz x.2)
 simp only [dN,ax,List.length_append]
 omega
theorem GK:∀(l:List aR),2*l.length≤(l.flatMap dN).length
 | []=>Nat.le_refl _
 | x::l=>by
  have:=GK l
  have:=Vf x
  rw [List.flatMap_cons,List.length_append,List.length_cons]
  omega
theorem Ef (e:Nat) (rs:List bK):lk e rs≠[]:=by
 intro h
 have:=congrArg List.length h
 have:=kh (zz (e:Int))
 simp only [lk,ax,List.length_append,List.length_nil] at *
 omega
theorem Xh {e:Nat} {rs:List bK} (he:e<5) (ho:lX 3 rs) (hs:eC rs≤1000):l8 (lk e rs)=some (e,rs):=by
 obtain ⟨b,hb⟩:∃b,b=lk e rs:=⟨_,rfl⟩
 rw [←hb]
 unfold lk at hb
 obtain ⟨g1,g2⟩:=sC ho
 have cq:(aC rs).length=rs.length:=by simp [aC]
 have n1:=gS (n:=(e:Int)) aa aa [] (bj dN (aC rs))
 simp only [List.nil_append,←hb,List.length_nil,Nat.zero_add] at n1
 have n2:=gS (n:=((aC rs).length:Int)) aa aa (ax (e:Int)) ((aC rs).flatMap dN)
 have gO:ax (e:Int)++(ax ((aC rs).length:Int)++(aC rs).flatMap dN)=b:=hb.symm
 rw [gO] at n2
 have Bz:=congrArg List.length gO
 simp only [List.length_append] at Bz
 have n3:=rT (f:=dN) (b:=b) (one:=ff b) (aC rs) ((ax (e:Int)).length+(ax ((aC rs).length:Int)).length) aa (fun x hx q r hq h=>by
  obtain ⟨y,hy,rfl⟩:=List.mem_map.1 hx
  have:=g2 y hy
  exact Vd (by constructor<;>dsimp only<;>omega) (by constructor<;>dsimp only<;>omega) hq h) [] (by
   rw [←gO,←List.append_assoc,←List.length_append,List.drop_left]
   simp)
 have h2:=GK (aC rs)
 have n4:dK b (ff b) b.length (ax (e:Int)).length=.ok (aC rs) b.length:=by
  unfold dK
  rw [n2]
  simp only
  rw [if_neg aa,Int.toNat_natCast,n3]
  congr 1
  omega
 unfold l8
 rw [n1]
 simp only
 rw [if_neg aa,n4]
 simp only
 have Q4:fa 1000 3 (aC rs)=true:=Jn (p:=3) ho aa
 rw [if_neg ae,if_pos Q4,CM,Int.toNat_natCast]
theorem Xi {b:List UInt8} {e:Nat} {rs:List bK} (h:l8 b=some (e,rs)):e<5∧lX 3 rs∧eC rs≤1000∧b=lk e rs:=by
 unfold l8 at h
 split at h
 ·cases h
 ·rename_i e' p h1
  split at h
  ·cases h
  ·rename_i h2
   split at h
   ·cases h
   ·rename_i l q h3
    split at h
    ·cases h
    ·rename_i h4
     split at h
     rotate_left
     ·cases h
     rename_i h5
     simp only [Option.some.injEq,Prod.mk.injEq] at h
     obtain ⟨rfl,rfl⟩:=h
     obtain ⟨rs,rfl,g2,g3⟩:=CU (p:=3) h5 ag
     rw [CM]
     refine ⟨aa,g2,aa,?_⟩
     have s1:=yy (Nat.zero_le _) h1
     obtain ⟨p1,p2,_⟩:=kW (Nat.zero_le _) h1
     rw [List.drop_zero] at s1
     unfold dK at h3
     split at h3
     ·cases h3
     ·rename_i n q1 h6
      split at h3
      ·cases h3
      ·rename_i h7
       have s2:=yy p2 h6
       obtain ⟨p3,p4,_⟩:=kW p2 h6
       obtain ⟨m1,m2,m3,m4⟩:=CH (f:=dN) (b:=b) (one:=ff b) (fun p q x hp h=>by
        obtain ⟨a1,a2,a3,_⟩:=zc hp h
        exact ⟨aa,a2,a3⟩) _ _ _ _ p4 h3
       have e1:(e'.toNat:Int)=e':=aa
       have e2:((aC rs).length:Int)=n:=aa
       have e3:q=b.length:=Decidable.not_not.1 h4
       unfold lk bj
       rw [e1,e2]
       rw [s2,m4,e3,List.drop_length,List.append_nil] at s1
       exact s1
theorem Ll {b:List UInt8} {e:Nat} {rs:List bK} (h:gk b=some (e,rs)):e<5∧lX 3 rs∧eC rs≤1000∧b=iz e (bP rs)∧(b=[]↔eu e (bP rs)=true):=by
 unfold gk at h
 split at h
 ·rename_i hb
  cases h
  subst hb
  exact ⟨ag,trivial,ag,rfl,by simp [eu,bP]⟩
 ·rename_i hb
  split at h
  ·cases h
  ·rename_i e' rs' h1
   split at h
   ·cases h
   ·rename_i h2
    cases h
    obtain ⟨a1,a2,a3,a4⟩:=Xi h1
    refine ⟨a1,a2,a3,?_,fun q=>absurd q hb,fun q=>absurd q h2⟩
    unfold iz
    rw [if_neg h2,(Ko rs 3 a2).1]
    exact a4
theorem Lk {e:Nat} {ks:List Nat} (he:e<5) (hk:∀k∈ks,k<3) (hl:ks.length≤1000):gk (iz e ks)=some (if eu e ks=true then (0,[]) else (e,bN ks)):=by
 obtain ⟨r1,r2,r3,r4,r5⟩:=na ks
 have ho:=r3 hk 3 (by
  cases ks with
  | nil=>simp
  | cons k ks=>have:=hk k ae;simp;omega)
 unfold iz
 split
 ·rfl
 ·rename_i ht
  unfold gk
  rw [if_neg (Ef _ _),Xh he ho aa]
  simp only
  rw [r1,if_neg ht]
abbrev tF (c:Nat):Prop:=(c<32∧c≠9∧c≠10∧c≠13)∨(127≤c∧c<160)
abbrev fD (b:List UInt8):ah:=.mk 2 0 b [] []
def eR (b:List UInt8):Option (ah×List UInt8):=if (fp b).1.any (fun c=>decide (tF c))=true then none else
 some (fD ((lines (fp b).1).1.flatMap aM),iz (fp b).2 (lines (fp b).1).2)
def l9 (v:ah):Option (List UInt8):=if v.kind=2 then some v.bytes else none
def qz (b:List UInt8) (rs:List bK) (l:List Nat):Option (List Nat):=if b=[] then some l else dA l (bP rs)
def nn (t b:List UInt8):Option (List UInt8):=match gk b with
 | none=>none
 | some (e,rs)=>match chars t with
  | none=>none
  | some l=>match qz b rs l with
   | none=>none
   | some cs=>gL e cs
noncomputable def ja (v:ah) (b:List UInt8):Option (List UInt8):=match l9 v with
 | none=>none
 | some t=>match nn t b with
  | none=>none
  | some o=>open Classical in if o.length≤1000∧eR o=some (v,b) then some o else none
theorem GU {cs:List Nat}:cs.length≤(cs.flatMap aM).length:=by
 induction cs with
 | nil=>exact Nat.le_refl _
 | cons c cs ih =>
  have:=kv c
  rw [List.flatMap_cons,List.length_append,List.length_cons,qA]
  omega
theorem Bb (big:Bool):∀ {cs:List Nat},(∀c∈cs,bT c)→cs.length≤((cs.flatMap cP).flatMap (bz big)).length∧(cs.flatMap aM).length≤2*((cs.flatMap cP).flatMap (bz big)).length
 | [],_=>⟨Nat.le_refl _,Nat.le_refl _⟩
 | c::cs,h=>by
  obtain ⟨h1,h2⟩:=Bb big (cs:=cs) fun x hx=>h x (by simp [hx])
  have hn:=kv c
  have hu:2≤((cP c).flatMap (bz big)).length:=by
   unfold cP
   split
   ·simp [np]
   ·simp [np]
  rw [List.flatMap_cons,List.flatMap_cons,List.flatMap_append,List.length_append,List.length_append,List.length_cons,qA]
  omega
theorem Gk {e:Nat} {cs:List Nat} {b:List UInt8} (h:∀c∈cs,bT c) (he:gL e cs=some b):cs.length≤b.length∧(cs.flatMap aM).length≤2*b.length:=by
 have h0:=GU (cs:=cs)
 unfold gL at he
 split at he
 ·cases he;omega
 ·split at he
  ·cases he;rw [List.length_append];omega
  ·split at he
   ·cases he
    obtain ⟨a1,a2⟩:=Bb true h
    rw [List.length_append];omega
   ·split at he
    ·cases he
     obtain ⟨a1,a2⟩:=Bb false h
     rw [List.length_append];omega
    ·split at he
     ·rename_i hall
      cases he
      have:∀(cs:List Nat),(∀c∈cs,c<256)→(cs.flatMap aM).length≤2*cs.length:=by
       intro cs
       induction cs with
       | nil=>intro _;exact Nat.le_refl _
       | cons c cs ih =>
        intro hh
        have:=ih fun x hx=>hh x (by simp [hx])
        have hc:=hh c ae
        rw [List.flatMap_cons,List.length_append,List.length_cons,qA]
        unfold fE
        rw [if_pos (show c<2048 by omega)]
        split<;>omega
      have:=this cs hall
      rw [List.length_map]
      omega
     ·cases he
theorem CB:∀(n:Nat) (l:List Nat),l.length≤n→((lines l).1.flatMap aM).length≤(l.flatMap aM).length
 | 0,l,h=>by
  have:l=[]:=List.eq_nil_of_length_eq_zero aa
  subst this
  exact Nat.le_refl _
 | n+1,[],h=>Nat.le_refl _
 | n+1,c::r,h=>by
  have hr:r.length≤n:=by simpa using h
  have ih:=CB n r hr
  have gM:(aM 10).length=1:=rfl
  have Bk:(aM 13).length=1:=rfl
  by_cases h1:c=10
  ·subst h1
   rw [yk,List.flatMap_cons,List.flatMap_cons,List.length_append,List.length_append]
   omega
  by_cases h2:c=13
  ·subst h2
   by_cases h3:∃k,r=10::k
   ·obtain ⟨r,rfl⟩:=h3
    have ih:=CB n r (by simp at hr;omega)
    rw [yj,List.flatMap_cons,List.flatMap_cons,List.flatMap_cons,List.length_append,List.length_append,List.length_append]
    omega
   ·rw [uO (fun k e=>h3 ⟨k,e⟩),List.flatMap_cons,List.flatMap_cons,List.length_append,List.length_append]
    omega
  ·rw [yl h1 h2,List.flatMap_cons,List.flatMap_cons,List.length_append,List.length_append]
   omega
structure EI (b:List UInt8) (v:ah) (r:List UInt8) (cs:List Nat) (e:Nat):Prop where
 eq:fp b=(cs,e)
 enc:gL e cs=some b
 e5:e<5
 ch:∀c∈cs,bT c
 val:v=fD ((lines cs).1.flatMap aM)
 res:r=iz e (lines cs).2
 k3:∀k∈(lines cs).2,k<3
 kl:(lines cs).2.length≤b.length
 vl:((lines cs).1.flatMap aM).length≤2*b.length
 chars:chars ((lines cs).1.flatMap aM)=some (lines cs).1
 back:dA (lines cs).1 (lines cs).2=some cs
 plain:eu e (lines cs).2=true→(lines cs).1=cs∧e=0
theorem Eg {b:List UInt8} {v:ah} {r:List UInt8} (h:eR b=some (v,r)):∃cs e,EI b v r cs e:=by
 unfold eR at h
 split at h
 ·cases h
 ·simp only [Option.some.injEq,Prod.mk.injEq] at h
  obtain ⟨h1,h2⟩:=h
  obtain ⟨g1,g2,g3⟩:=GG b
  generalize hf:fp b=x at *
  obtain ⟨cs,e⟩:=x
  dsimp only at h1 h2 g1 g2 g3
  obtain ⟨a1,a2,a3,a4,a5⟩:=yi _ cs (Nat.le_refl _)
  obtain ⟨l1,l2⟩:=Gk g3 g1
  have l3:=CB _ cs (Nat.le_refl _)
  refine ⟨cs,e,hf,g1,g2,g3,h1.symm,h2.symm,a2,aa,aa,wD _ fun c hc=>?_,a1,fun ht=>?_⟩
  ·rcases a5 c hc with h|h
   ·subst h;unfold bT;omega
   ·exact g3 c h
  ·unfold eu at ht
   simp only [Bool.and_eq_true,decide_eq_true_eq,List.all_eq_true,beq_iff_eq] at ht
   exact ⟨CA _ cs (Nat.le_refl _) ht.2,ht.1⟩
theorem Xk (b:List UInt8):l9 (fD b)=some b:=rfl
theorem Xl {b:List UInt8} {v:ah} {r:List UInt8} {cs:List Nat} {e:Nat} (hl:b.length≤1000) (T:EI b v r cs e):nn ((lines cs).1.flatMap aM) r=some b:=by
 have hk:=T.kl
 have aL:=Lk T.e5 T.k3 aa
 rw [←T.res] at aL
 unfold nn
 rw [aL]
 by_cases ht:eu e (lines cs).2=true
 ·obtain ⟨p1,p2⟩:=T.plain ht
  rw [if_pos ht]
  simp only
  rw [T.chars]
  simp only
  have hr:r=[]:=by rw [T.res,iz,if_pos ht]
  rw [qz,if_pos hr]
  simp only
  rw [p1,←T.enc,p2]
 ·rw [if_neg ht]
  simp only
  rw [T.chars]
  simp only
  have hr:r≠[]:=by rw [T.res,iz,if_neg ht];exact Ef _ _
  rw [qz,if_neg hr,(na _).1,T.back]
  exact T.enc
theorem Lm {b:List UInt8} {v:ah} {r:List UInt8} (hl:b.length≤1000) (h:eR b=some (v,r)):ja v r=some b:=by
 obtain ⟨cs,e,T⟩:=Eg h
 unfold ja
 rw [T.val,Xk]
 simp only
 rw [Xl hl T]
 simp only
 rw [if_pos ⟨hl,by rw [←T.val];exact h⟩]
theorem OS (b:List UInt8):enc (fD b)=ax 2++cx b:=by
 rw [AW]
 simp only [ah.kind,ah.num,ah.bytes,ah.names,ah.parts]
 rw [if_neg ag,if_pos trivial]
theorem NG (b:List UInt8):eH 0 (fD b) 0=.ok 1:=by
 have e:pre 0 (fD b)=[(fD b,0)]:=by
  rw [vd]
  simp
 have n2:ee (fD b)=0:=by simp [ee,ij,ah.kind,ah.num,ah.bytes,ah.names,ah.parts]
 unfold eH
 rw [e]
 simp [scan,hY,n2]
theorem LR {b:List UInt8} (h3:b.length≤3000):bC (fD b)=(0,0):=by
 have hl:=congrArg List.length (OS b)
 have a3:=qj (b:=b) aa
 have X7:=cD (n:=2) ag ag
 simp only [List.length_append] at hl
 unfold bC
 rw [NG]
 simp only
 rw [if_neg aa]
abbrev I2:List UInt8:=[101,110,99,111,100,105,110,103]
abbrev I0:List UInt8:=[99,97,114,114,105,97,103,101,32,114,101,116,117,114,110,32,97,110,100,32,108,105,110,101,32,102,101,101,100]
abbrev I1:List UInt8:=[99,97,114,114,105,97,103,101,32,114,101,116,117,114,110]
def qc (s:List UInt8) (n:Nat):List jN:=if 0<n then [(s,(n:Int))] else []
def vN (e:Nat) (ks:List Nat):List jN:=qc I2 e++qc I0 (ks.count 1)++qc I1 (ks.count 2)
def Li (b:List UInt8):Option (List jN):=match gk b with
 | none=>none
 | some (e,rs)=>some (vN e (bP rs))
theorem CF {s:List UInt8} {n:Nat}:qc s n=[]↔n=0:=by
 unfold qc
 split
 ·rename_i h;exact ⟨fun q=>(by cases q),fun q=>aa⟩
 ·rename_i h;exact ⟨fun _=>by omega,fun _=>rfl⟩
theorem Lj (e:Nat) (ks:List Nat):(vN e ks).length≤4:=by
 have h:∀s n,(qc s n).length≤1:=fun s n=>by unfold qc;split<;>simp
 have:=h I2 e
 have:=h I0 (ks.count 1)
 have:=h I1 (ks.count 2)
 simp only [vN,List.length_append]
 omega
theorem Xg {e:Nat} {ks:List Nat} (hk:∀k∈ks,k<3):vN e ks=[]↔eu e ks=true:=by
 unfold vN eu
 rw [List.append_eq_nil_iff,List.append_eq_nil_iff,CF,CF,CF,List.count_eq_zero,List.count_eq_zero]
 simp only [Bool.and_eq_true,decide_eq_true_eq,List.all_eq_true,beq_iff_eq]
 constructor
 ·rintro ⟨⟨h1,h2⟩,h3⟩
  refine ⟨h1,fun k hm=>?_⟩
  have:=hk k hm
  have:k≠1:=fun e=>h2 (e ▸ hm)
  have:k≠2:=fun e=>h3 (e ▸ hm)
  omega
 ·rintro ⟨h1,h2⟩
  exact ⟨⟨h1,fun hm=>absurd (h2 1 hm) ag⟩,fun hm=>absurd (h2 2 hm) ag⟩
theorem Vg {x:bK} (h1:x.1<3) (h2:x.2≤1000):(dN (cR x)).length≤20:=by
 have a1:=cD (n:=(x.1:Int)) aa aa
 have a2:=cD (n:=(x.2:Int)) aa aa
 simp only [dN,List.length_append]
 omega
theorem Xj {e:Nat} {ks:List Nat} (he:e<5) (hk:∀k∈ks,k<3) (hl:ks.length≤1000):(iz e ks).length≤100000:=by
 obtain ⟨r1,r2,r3,r4,r5⟩:=na ks
 have ho:=r3 hk 3 (by
  cases ks with
  | nil=>simp
  | cons k ks=>have:=hk k ae;simp;omega)
 obtain ⟨s1,s2⟩:=sC ho
 have cq:(aC (bN ks)).length=(bN ks).length:=by simp [aC]
 unfold iz
 split
 ·simp
 ·unfold lk
  have a1:=cD (n:=(e:Int)) aa aa
  have:=ov (f:=dN) (m:=20) (l:=aC (bN ks)) aa (fun x hx=>by
   obtain ⟨y,hy,rfl⟩:=List.mem_map.1 hx
   have:=s2 y hy
   exact Vg this.1 aa)
  rw [List.length_append]
  omega
theorem Xm {b:List UInt8} {v:ah} {r:List UInt8} (hl:b.length≤1000) (h:eR b=some (v,r)):VB 1048576 v∧(bC v).1=0∧(l9 v).isSome=true∧ja v r=some b∧r.length≤100000000∧∃ls,Li r=some ls∧ls.length≤4∧(ls=[]↔r=[]):=by
 have cr:=Lm hl h
 obtain ⟨cs,e,T⟩:=Eg h
 have hk:=T.kl
 have hv:=T.vl
 have aL:=Lk T.e5 T.k3 aa
 rw [←T.res] at aL
 refine ⟨by rw [T.val];exact qC aa,by rw [T.val,LR aa],by rw [T.val];rfl,cr,by rw [T.res];have:=Xj T.e5 T.k3 aa;omega,?_⟩
 unfold Li
 rw [aL]
 by_cases ht:eu e (lines cs).2=true
 ·rw [if_pos ht]
  refine ⟨_,rfl,Lj _ _,?_⟩
  rw [T.res,iz,if_pos ht]
  exact ⟨fun _=>rfl,fun _=>rfl⟩
 ·rw [if_neg ht]
  refine ⟨_,rfl,Lj _ _,?_⟩
  rw [(na _).1,Xg T.k3,T.res,iz,if_neg ht]
  exact ⟨fun q=>absurd q ht,fun q=>absurd q (Ef _ _)⟩
def eA (lo:Bool) (c:UInt8):Option Nat :=
 if 48≤c.toNat∧c.toNat≤57 then some (c.toNat - 48) else if lo=true∧97≤c.toNat∧c.toNat≤102 then some (c.toNat - 87) else if lo=false∧65≤c.toNat∧c.toNat≤70 then some (c.toNat - 55) else none
def mF (lo:Bool) (n:Nat):Nat:=if n<10 then 48+n else if lo=true then 87+n else 55+n
def eb (lo:Bool) (n:Nat):UInt8:=UInt8.ofNat (mF lo n)
theorem ue {lo:Bool} {n:Nat} (h:n<16):mF lo n<256∧48≤mF lo n:=by unfold mF;by_cases gM:n<10<;>by_cases hl:lo=true<;>simp only [gM,hl,if_true,if_false,Bool.false_eq_true]<;>omega
theorem nT {lo:Bool} {n:Nat} (h:n<16):(eb lo n).toNat=mF lo n:=bW (ue h).1
theorem rI {lo:Bool} {n:Nat} (h:n<16):eA lo (eb lo n)=some n:=by
 unfold eA
 rw [nT h]
 unfold mF
 cases lo<;>simp only [Bool.false_eq_true,if_false,if_true,false_and,true_and,reduceCtorEq]<;>by_cases gM:n<10
 all_goals simp only [gM,if_true,if_false]
 ·rw [if_pos aa];congr 1;omega
 ·rw [if_neg aa,if_pos aa];congr 1;omega
 ·rw [if_pos aa];congr 1;omega
 ·rw [if_neg aa,if_pos aa];congr 1;omega
theorem xC {lo:Bool} {c:UInt8} {n:Nat} (h:eA lo c=some n):n<16∧c=eb lo n:=by
 have e:n<16∧c.toNat=mF lo n:=by
  unfold eA at h
  unfold mF
  split at h
  ·cases h;rw [if_pos aa];omega
  split at h
  ·rename_i h2;cases h;rw [if_neg aa,if_pos h2.1];omega
  split at h
  ·rename_i h2;cases h;rw [if_neg aa,if_neg (by rw [h2.1];decide)];omega
  ·cases h
 refine ⟨e.1,UInt8.toNat_inj.1 ?_⟩
 rw [nT e.1,e.2]
theorem HB {lo IU:Bool} {m n:Nat} (hm:m<16) (hn:n<16) (h:eb lo m=eb IU n):m=n:=by
 have h:=congrArg UInt8.toNat h
 rw [nT hm,nT hn] at h
 unfold mF at h
 cases lo<;>cases IU<;>simp only [Bool.false_eq_true,if_false,if_true] at h<;>split at h<;>split at h<;>omega
abbrev bE (fl:Nat):Bool:=decide (fl%2=1)
def bu (fl:Nat):List UInt8:=if 2≤fl then [13,10] else [10]
def cf (lo:Bool) (raw:List UInt8):List UInt8:=raw.flatMap fun c=>[eb lo (c.toNat / 16),eb lo (c.toNat%16)]
def gR (fl:Nat) (raw:List UInt8):List UInt8:=58::(cf (bE fl) raw++bu fl)
theorem xF (lo:Bool) (raw:List UInt8):(cf lo raw).length=2*raw.length:=by
 induction raw with
 | nil=>rfl
 | cons c r ih=>show (_::_::cf lo r).length=_;simp only [List.length_cons];omega
theorem yg (fl:Nat) (raw:List UInt8):2*raw.length+2≤(gR fl raw).length∧(gR fl raw).length≤2*raw.length+3:=by
 unfold gR bu
 rw [List.length_cons,List.length_append,xF]
 split<;>simp only [List.length_cons,List.length_nil]<;>omega
theorem nD (c:UInt8):c.toNat / 16<16∧c.toNat%16<16∧UInt8.ofNat (16*(c.toNat / 16)+c.toNat%16)=c:=by
 have:=c.toNat_lt
 refine ⟨aa,aa,?_⟩
 rw [show 16*(c.toNat / 16)+c.toNat%16=c.toNat by omega]
 exact UInt8.ofNat_toNat
theorem HG {fl jo:Nat} {x y:List UInt8}:∀ {raw vi:List UInt8},cf (bE fl) raw++(bu fl++x)=cf (bE jo) vi++(bu jo++y)→raw=vi∧x=y
 | [],[],h=>by
  refine ⟨rfl,?_⟩
  have h:bu fl++x=bu jo++y:=h
  unfold bu at h
  split at h<;>split at h<;>simp_all
 | [],c::r,h=>by
  exfalso
  obtain ⟨X,h⟩:∃X,bu fl++x=eb (bE jo) (c.toNat / 16)::X:=⟨_,h⟩
  have:=(nD c).1
  have e:=nT (lo:=bE jo) this
  have l:=(ue (lo:=bE jo) this).2
  unfold bu at h
  split at h
  ·simp only [List.cons_append,List.cons.injEq] at h
   rw [←h.1] at e
   have:(13:UInt8).toNat=13:=rfl
   omega
  ·simp only [List.cons_append,List.cons.injEq] at h
   rw [←h.1] at e
   have:(10:UInt8).toNat=10:=rfl
   omega
 | c::r,[],h=>by
  exfalso
  obtain ⟨X,h⟩:∃X,eb (bE fl) (c.toNat / 16)::X=bu jo++y:=⟨_,h⟩
  have:=(nD c).1
  have e:=nT (lo:=bE fl) this
  have l:=(ue (lo:=bE fl) this).2
  unfold bu at h
  split at h
  ·simp only [List.cons_append,List.cons.injEq] at h
   rw [h.1] at e
   have:(13:UInt8).toNat=13:=rfl
   omega
  ·simp only [List.cons_append,List.cons.injEq] at h
   rw [h.1] at e
   have:(10:UInt8).toNat=10:=rfl
   omega
 | c::r,d::s,h=>by
  have h:eb (bE fl) (c.toNat / 16)::eb (bE fl) (c.toNat%16)::(cf (bE fl) r++(bu fl++x))=eb (bE jo) (d.toNat / 16)::eb (bE jo) (d.toNat%16)::(cf (bE jo) s++(bu jo++y)):=h
  rw [List.cons.injEq,List.cons.injEq] at h
  obtain ⟨h1,h2,h3⟩:=h
  obtain ⟨rfl,e2⟩:=HG h3
  obtain ⟨c1,c2,c3⟩:=nD c
  obtain ⟨d1,d2,d3⟩:=nD d
  have k1:=HB c1 d1 h1
  have k2:=HB c2 d2 h2
  refine ⟨?_,e2⟩
  rw [←c3,←d3,k1,k2]
theorem IJ {fl jo:Nat} {raw vi x y:List UInt8} (h:gR fl raw++x=gR jo vi++y):raw=vi∧x=y:=by
 unfold gR at h
 rw [List.cons_append,List.cons_append,List.cons.injEq,List.append_assoc,List.append_assoc] at h
 exact HG h.2
def fQ (l:List UInt8):Nat:=(l.map UInt8.toNat).sum
theorem KQ (a b:List UInt8):fQ (a++b)=fQ a+fQ b:=by simp [fQ]
abbrev b8 (l:List UInt8) (i:Nat):Nat:=(l[i]?.getD 0).toNat
def gg (raw:List UInt8):Prop:=5≤raw.length∧raw.length=5+b8 raw 0∧fQ raw%256=0
instance (raw:List UInt8):Decidable (gg raw):=by unfold gg;infer_instance
def cu (lo:Bool):List UInt8→List UInt8×List UInt8
 | a::b::t=>match eA lo a,eA lo b with
  | some x,some y=>(UInt8.ofNat (16*x+y)::(cu lo t).1,(cu lo t).2)
  | _,_=>([],a::b::t)
 | l=>([],l)
theorem C2 (lo:Bool):∀(l:List UInt8),cf lo (cu lo l).1++(cu lo l).2=l
 | []=>rfl
 | [a]=>rfl
 | a::b::t=>by
  unfold cu
  cases h1:eA lo a with
  | none=>rfl
  | some x =>
   cases h2:eA lo b with
   | none=>rfl
   | some y =>
    obtain ⟨x1,rfl⟩:=xC h1
    obtain ⟨y1,rfl⟩:=xC h2
    simp only
    have e:(UInt8.ofNat (16*x+y)).toNat=16*x+y:=bW aa
    show eb lo ((UInt8.ofNat (16*x+y)).toNat / 16)::eb lo ((UInt8.ofNat (16*x+y)).toNat%16)::(cf lo (cu lo t).1++(cu lo t).2)=_
    rw [e,C2 lo t,show (16*x+y) / 16=x by omega,show (16*x+y)%16=y by omega]
theorem C3 (lo:Bool) {e:UInt8} (he:e.toNat<48) (r:List UInt8):∀(raw:List UInt8),cu lo (cf lo raw++e::r)=(raw,e::r)
 | []=>by
  have h:eA lo e=none:=by unfold eA;rw [if_neg aa,if_neg aa,if_neg aa]
  cases r with
  | nil=>rfl
  | cons b t =>
   show cu lo (e::b::t)=_
   unfold cu
   rw [h]
 | c::raw=>by
  obtain ⟨c1,c2,c3⟩:=nD c
  show cu lo (eb lo (c.toNat / 16)::eb lo (c.toNat%16)::(cf lo raw++e::r))=_
  unfold cu
  rw [rI c1,rI c2]
  simp only
  rw [C3 lo he r raw,c3]
def iW (fl:Nat):List UInt8→Option (List UInt8×List UInt8)
 | []=>none
 | c::t=>if c=58∧(cu (bE fl) t).2.take (bu fl).length=bu fl∧gg (cu (bE fl) t).1 then some ((cu (bE fl) t).1,(cu (bE fl) t).2.drop (bu fl).length) else none
theorem J2 (fl:Nat) (c:UInt8) (t:List UInt8):iW fl (c::t)=if c=58∧(cu (bE fl) t).2.take (bu fl).length=bu fl∧gg (cu (bE fl) t).1 then some ((cu (bE fl) t).1,(cu (bE fl) t).2.drop (bu fl).length) else none:=rfl
theorem ql {fl:Nat} {l raw r:List UInt8}:iW fl l=some (raw,r)↔l=gR fl raw++r∧gg raw:=by
 constructor
 ·intro h
  cases l with
  | nil=>cases h
  | cons c t =>
   rw [J2] at h
   by_cases hc:c=58∧(cu (bE fl) t).2.take (bu fl).length=bu fl∧gg (cu (bE fl) t).1
   ·rw [if_pos hc] at h
    cases h
    obtain ⟨rfl,h2,h3⟩:=hc
    refine ⟨?_,h3⟩
    unfold gR
    rw [List.cons_append,List.append_assoc]
    conv=>lhs;rw [←C2 (bE fl) t,←List.take_append_drop (bu fl).length (cu (bE fl) t).2,h2]
   ·rw [if_neg hc] at h
    cases h
 ·rintro ⟨rfl,h2⟩
  unfold gR
  rw [List.cons_append,List.append_assoc]
  have e:cu (bE fl) (cf (bE fl) raw++(bu fl++r))=(raw,bu fl++r):=by
   unfold bu
   split
   ·exact C3 _ ag _ raw
   ·exact C3 _ ag _ raw
  rw [J2,e]
  simp only
  rw [if_pos ⟨by trivial,by rw [List.take_left],h2⟩,List.drop_left]
def qo (fl:Nat):Nat→List UInt8→Option (List (List UInt8))
 | _,[]=>some []
 | 0,_=>none
 | n+1,l=>match iW fl l with
  | none=>none
  | some (raw,r)=>match qo fl n r with
   | none=>none
   | some rs=>some (raw::rs)
def kj (fl:Nat) (l:List UInt8):Option (List (List UInt8)):=qo fl l.length l
theorem UO {fl:Nat}:∀ {n:Nat} {l:List UInt8} {rs:List (List UInt8)},l.length≤n→(qo fl n l=some rs↔l=rs.flatMap (gR fl)∧∀r∈rs,gg r):=by
 intro n
 induction n with
 | zero =>
  intro l rs hl
  obtain rfl:=List.eq_nil_of_length_eq_zero (by omega:l.length=0)
  unfold qo
  constructor
  ·intro h;cases h;exact ⟨rfl,ae⟩
  ·rintro ⟨h1,_⟩
   cases rs with
   | nil=>rfl
   | cons a rs =>
    have:=congrArg List.length h1
    rw [List.flatMap_cons,List.length_append] at this
    have:=(yg fl a).1
    simp only [List.length_nil] at *
    omega
 | succ n ih =>
  intro l rs hl
  cases l with
  | nil =>
   unfold qo
   constructor
   ·intro h;cases h;exact ⟨rfl,ae⟩
   ·rintro ⟨h1,_⟩
    cases rs with
    | nil=>rfl
    | cons a rs =>
     have:=congrArg List.length h1
     rw [List.flatMap_cons,List.length_append] at this
     have:=(yg fl a).1
     simp only [List.length_nil] at *
     omega
  | cons c t =>
   show (match iW fl (c::t) with
    | none=>none
    | some (raw,r)=>match qo fl n r with
     | none=>none
     | some rs=>some (raw::rs))=some rs↔_
   cases hr:iW fl (c::t) with
   | none =>
    simp only
    constructor
    ·intro h;cases h
    ·rintro ⟨h1,h2⟩
     cases rs with
     | nil=>cases h1
     | cons a rs =>
      rw [List.flatMap_cons] at h1
      rw [ql.2 ⟨h1,h2 a ae⟩] at hr
      cases hr
   | some p =>
    obtain ⟨raw,r⟩:=p
    obtain ⟨e1,e2⟩:=ql.1 hr
    have hlen:r.length≤n:=by
     have:=congrArg List.length e1
     rw [List.length_append] at this
     have:=(yg fl raw).1
     simp only [List.length_cons] at *
     omega
    simp only
    constructor
    ·intro h
     cases hq:qo fl n r with
     | none=>rw [hq] at h;cases h
     | some qs =>
      rw [hq] at h
      cases h
      obtain ⟨f1,f2⟩:=(ih hlen).1 hq
      refine ⟨by rw [List.flatMap_cons,←f1];exact e1,fun x hx=>?_⟩
      rcases List.mem_cons.1 hx with rfl|hx
      ·exact e2
      ·exact f2 x hx
    ·rintro ⟨h1,h2⟩
     cases rs with
     | nil=>cases h1
     | cons a rs =>
      rw [List.flatMap_cons,e1] at h1
      obtain ⟨rfl,rfl⟩:=IJ h1
      rw [(ih hlen).2 ⟨rfl,fun x hx=>h2 x (by simp [hx])⟩]
theorem oz {fl:Nat} {l:List UInt8} {rs:List (List UInt8)}:kj fl l=some rs↔l=rs.flatMap (gR fl)∧∀r∈rs,gg r:=UO (Nat.le_refl _)
theorem Ka (fl:Nat):kj fl []=some []:=rfl
theorem UP {fl:Nat} {l:List UInt8} (hl:l≠[]) (h:iW fl l=none):kj fl l=none:=by
 cases hr:kj fl l with
 | none=>rfl
 | some rs =>
  obtain ⟨h1,h2⟩:=oz.1 hr
  cases rs with
  | nil=>exact absurd h1 hl
  | cons a rs =>
   rw [List.flatMap_cons] at h1
   rw [ql.2 ⟨h1,h2 a ae⟩] at h
   cases h
theorem Kb {fl:Nat} {l raw r:List UInt8} (h:iW fl l=some (raw,r)):kj fl l=match kj fl r with
  | none=>none
  | some rs=>some (raw::rs):=by
 obtain ⟨e1,e2⟩:=ql.1 h
 cases hr:kj fl r with
 | some rs =>
  obtain ⟨f1,f2⟩:=oz.1 hr
  refine oz.2 ⟨by rw [List.flatMap_cons,←f1];exact e1,fun x hx=>?_⟩
  rcases List.mem_cons.1 hx with rfl|hx
  ·exact e2
  ·exact f2 x hx
 | none =>
  cases hl:kj fl l with
  | none=>rfl
  | some qs =>
   obtain ⟨f1,f2⟩:=oz.1 hl
   cases qs with
   | nil=>rw [f1] at h;cases h
   | cons a qs =>
    rw [List.flatMap_cons,e1] at f1
    obtain ⟨rfl,rfl⟩:=IJ f1
    rw [oz.2 ⟨rfl,fun x hx=>f2 x (by simp [hx])⟩] at hr
    cases hr
abbrev aT:=Nat×List UInt8
def fe (raw:List UInt8):Nat:=256*b8 raw 1+b8 raw 2
def gB (raw:List UInt8):List UInt8:=(raw.drop 4).take (b8 raw 0)
theorem JW {raw:List UInt8} (h:gg raw):(gB raw).length=b8 raw 0:=by
 have:=h.2.1
 simp [gB]
 omega
def jT (at_:Nat) (c:List UInt8) (S:List aT):List aT:=match S.getLast? with
 | none=>[(at_,c)]
 | some x=>if x.1+x.2.length=at_ then S.dropLast++[(x.1,x.2++c)] else S++[(at_,c)]
theorem zY (a:Nat) (c:List UInt8):jT a c []=[(a,c)]:=rfl
theorem td (a:Nat) (c:List UInt8) (S:List aT) (x:aT):jT a c (S++[x])=if x.1+x.2.length=a then S++[(x.1,x.2++c)] else S++[x]++[(a,c)]:=by
 unfold jT
 rw [List.getLast?_concat,List.dropLast_concat]
def tE (raw:List UInt8):Prop:=b8 raw 3=0∧b8 raw 0≠0∧fe raw+b8 raw 0≤65536
instance (raw:List UInt8):Decidable (tE raw):=by unfold tE;infer_instance
def wX (raw:List UInt8):Prop:=b8 raw 0=0∧fe raw=0∧b8 raw 3=1
instance (raw:List UInt8):Decidable (wX raw):=by unfold wX;infer_instance
def lD (S:List aT) (Z:List Nat):List (List UInt8)→Option (List aT×List Nat)
 | []=>none
 | [raw]=>if wX raw then some (S,Z) else none
 | raw::rs=>if tE raw then lD (jT (fe raw) (gB raw) S) (Z++[b8 raw 0]) rs else none
theorem Bf (S:List aT) (Z:List Nat) (raw:List UInt8):lD S Z [raw]=if wX raw then some (S,Z) else none:=by rw [lD]
theorem Be (S:List aT) (Z:List Nat) (raw:List UInt8) {rs:List (List UInt8)} (h:rs≠[]):lD S Z (raw::rs)=if tE raw then lD (jT (fe raw) (gB raw) S) (Z++[b8 raw 0]) rs else none:=by
 cases rs with
 | nil=>exact absurd rfl h
 | cons a rs=>rw [lD];simp
def pJ (fl:Nat) (l:List UInt8):Option (List aT×List Nat):=match kj fl l with
 | none=>none
 | some rs=>lD [] [] rs
def oy (fl:Nat) (S:List aT) (Z:List Nat) (l:List UInt8):Option (List aT×List Nat):=match kj fl l with
 | none=>none
 | some rs=>lD S Z rs
theorem J6 {fl:Nat} {S:List aT} {Z:List Nat} {l:List UInt8} (h:iW fl l=none):oy fl S Z l=none:=by
 cases l with
 | nil=>rfl
 | cons c t=>unfold oy;rw [UP ae h]
theorem UC {fl:Nat} {S:List aT} {Z:List Nat} {l raw r:List UInt8} (h:iW fl l=some (raw,r)) (hk:b8 raw 3=1):oy fl S Z l=if b8 raw 0=0∧fe raw=0∧r=[] then some (S,Z) else none:=by
 unfold oy
 rw [Kb h]
 by_cases hr:r=[]
 ·subst hr
  rw [Ka]
  simp only
  rw [Bf]
  by_cases h2:b8 raw 0=0∧fe raw=0
  ·rw [if_pos ⟨h2.1,h2.2,hk⟩,if_pos ⟨h2.1,h2.2,by trivial⟩]
  ·rw [if_neg fun q=>h2 ⟨q.1,q.2.1⟩,if_neg fun q=>h2 ⟨q.1,q.2.1⟩]
 ·rw [if_neg fun q=>hr q.2.2]
  cases hq:kj fl r with
  | none=>rfl
  | some rs =>
   simp only
   have aS:rs≠[]:=by
    rintro rfl
    exact hr (oz.1 hq).1
   rw [Be _ _ _ aS,if_neg fun q=>by have:=q.1;omega]
theorem UB {fl:Nat} {S:List aT} {Z:List Nat} {l raw r:List UInt8} (h:iW fl l=some (raw,r)) (hk:b8 raw 3≠1):oy fl S Z l=if tE raw then oy fl (jT (fe raw) (gB raw) S) (Z++[b8 raw 0]) r else none:=by
 unfold oy
 rw [Kb h]
 by_cases hr:r=[]
 ·subst hr
  rw [Ka]
  simp only
  rw [Bf,if_neg fun q=>hk q.2.2]
  split<;>rfl
 ·cases hq:kj fl r with
  | none=>simp only;split<;>rfl
  | some rs =>
   simp only
   have aS:rs≠[]:=by
    rintro rfl
    exact hr (oz.1 hq).1
   rw [Be _ _ _ aS]
def dR (n:Nat):List Nat:=if n=0 then [] else if n≤16 then [n] else 16::dR (n - 16)
def fF (S:List aT):List Nat:=S.flatMap fun s=>dR s.2.length
theorem XF:dR 0=[]:=by rw [dR,if_pos rfl]
theorem LD {n:Nat} (h0:n≠0) (h:n≤16):dR n=[n]:=by rw [dR,if_neg h0,if_pos h]
theorem LB {n:Nat} (h:16<n):dR n=16::dR (n - 16):=by rw [dR,if_neg aa,if_neg aa]
def KR (b:List UInt8):UInt8:=UInt8.ofNat (256 - fQ b%256)
def y7 (a kind:Nat) (c:List UInt8):List UInt8:=[UInt8.ofNat c.length,UInt8.ofNat (a / 256),UInt8.ofNat a,UInt8.ofNat kind]++c
def iu (a kind:Nat) (c:List UInt8):List UInt8:=y7 a kind c++[KR (y7 a kind c)]
def fW (a:Nat):List UInt8→List Nat→Option (List (List UInt8)×List Nat)
 | [],Z=>some ([],Z)
 | _::_,[]=>none
 | c::d,n::Z=>if n≤(c::d).length then (match fW (a+n) ((c::d).drop n) Z with
   | none=>none
   | some (rs,Z')=>some (iu a 0 ((c::d).take n)::rs,Z')) else none
def ew:List aT→List Nat→Option (List (List UInt8))
 | [],Z=>if Z=[] then some [] else none
 | (a,d)::S,Z=>match fW a d Z with
  | none=>none
  | some (rs,Z')=>match ew S Z' with
   | none=>none
   | some qs=>some (rs++qs)
def BK (fl:Nat) (S:List aT) (Z:List Nat):Option (List UInt8):=match ew S (if Z=[] then fF S else Z) with
 | none=>none
 | some rs=>some ((rs++[iu 0 1 []]).flatMap (gR fl))
def jE (lo:Bool):List UInt8→Option (List UInt8)
 | []=>none
 | c::t=>if c=58∧(cu lo t).2=[]∧gg (cu lo t).1 then some (cu lo t).1 else none
theorem C1 (lo:Bool):∀(raw:List UInt8),cu lo (cf lo raw)=(raw,[])
 | []=>rfl
 | c::raw=>by
  obtain ⟨c1,c2,c3⟩:=nD c
  show cu lo (eb lo (c.toNat / 16)::eb lo (c.toNat%16)::cf lo raw)=_
  unfold cu
  rw [rI c1,rI c2]
  simp only
  rw [C1 lo raw,c3]
theorem yX (lo:Bool) (c:UInt8) (t:List UInt8):jE lo (c::t)=if c=58∧(cu lo t).2=[]∧gg (cu lo t).1 then some (cu lo t).1 else none:=rfl
theorem yZ {lo:Bool} {s raw:List UInt8}:jE lo s=some raw↔s=58::cf lo raw∧gg raw:=by
 constructor
 ·intro h
  cases s with
  | nil=>cases h
  | cons c t =>
   rw [yX] at h
   by_cases hc:c=58∧(cu lo t).2=[]∧gg (cu lo t).1
   ·rw [if_pos hc] at h
    cases h
    refine ⟨?_,hc.2.2⟩
    have:=C2 lo t
    rw [hc.2.1,List.append_nil] at this
    rw [this,hc.1]
   ·rw [if_neg hc] at h
    cases h
 ·rintro ⟨rfl,h2⟩
  rw [yX,C1,if_pos ⟨rfl,rfl,h2⟩]
theorem J5 {lo:Bool} {s:List UInt8} (h:∀raw,s=58::cf lo raw→¬gg raw):jE lo s=none:=by
 cases hr:jE lo s with
 | none=>rfl
 | some raw =>
  obtain ⟨h1,h2⟩:=yZ.1 hr
  exact absurd h2 (h raw h1)
theorem Qu {lo:Bool} {raw:List UInt8} {c:UInt8} (h:c∈cf lo raw):48≤c.toNat:=by
 unfold cf at h
 obtain ⟨b,_,hb⟩:=List.mem_flatMap.1 h
 obtain ⟨b1,b2,_⟩:=nD b
 simp only [List.mem_cons,List.not_mem_nil,or_false] at hb
 rcases hb with rfl|rfl
 ·rw [nT b1];exact (ue b1).2
 ·rw [nT b2];exact (ue b2).2
theorem OW (fl:Nat):∃e r,bu fl=e::r∧e.toNat<48:=by
 unfold bu
 split
 ·exact ⟨13,[10],rfl,ag⟩
 ·exact ⟨10,[],rfl,ag⟩
theorem Sf (fl:Nat) {a:List UInt8} (h:∀c∈a,48≤c.toNat) (r:List UInt8):Lib.NoOcc (a++r) (bu fl) a.length:=fun j hj=>by
 obtain ⟨e,es,he,hlt⟩:=OW fl
 unfold Lib.occAt
 rw [he,List.drop_append_of_le_length aa,List.drop_eq_getElem_cons hj]
 have hc:=h a[j] (List.getElem_mem hj)
 have:(e == a[j])=false:=by
  rw [beq_eq_false_iff_ne]
  intro q
  rw [←q] at hc
  omega
 rw [List.cons_append]
 simp [List.isPrefixOf,this]
theorem IL (fl:Nat) {a:List UInt8} (h:∀c∈a,48≤c.toNat) (r:List UInt8):Lib.index (a++(bu fl++r)) (bu fl)=(a.length:Nat):=by
 refine Lib.index_hit (Sf fl h _) ae ?_
 unfold Lib.occAt
 rw [List.drop_left]
 exact List.isPrefixOf_iff_prefix.2 ⟨r,rfl⟩
theorem IK {lo:Bool} {raw:List UInt8}:∀c∈(58::cf lo raw:List UInt8),48≤c.toNat:=fun c hc=>by
 rcases List.mem_cons.1 hc with rfl|hc
 ·decide
 ·exact Qu hc
theorem yh (fl:Nat) (raw r:List UInt8):gR fl raw++r=(58::cf (bE fl) raw)++(bu fl++r):=by
 unfold gR
 simp
theorem IB:∀ {s sub:List UInt8} {i:Nat},Lib.index s sub=(i:Nat)→Lib.occAt s sub i=true∧i≤s.length
 | [],sub,i,h=>by
  unfold Lib.index at h
  split at h
  ·rename_i he
   obtain rfl:i=0:=aa
   cases sub with
   | nil=>exact ⟨rfl,Nat.le_refl _⟩
   | cons a r=>simp at he
  ·omega
 | b::l,sub,i,h=>by
  unfold Lib.index at h
  split at h
  ·rename_i he
   obtain rfl:i=0:=aa
   exact ⟨he,Nat.zero_le _⟩
  ·split at h
   ·omega
   ·have kJ:=Lib.index_ge l sub
    have hne:Lib.index l sub ≠ -1:=fun e=>by rename_i h2;exact h2 (beq_iff_eq.2 e)
    obtain ⟨j,rfl⟩:∃j,i=j+1:=⟨i - 1,aa⟩
    obtain ⟨h1,h2⟩:=IB (s:=l) (sub:=sub) (i:=j) aa
    exact ⟨h1,by simp only [List.length_cons];omega⟩
theorem Uv {fl:Nat} {l:List UInt8} (h:Lib.index l (bu fl) = -1):iW fl l=none:=by
 cases hr:iW fl l with
 | none=>rfl
 | some p =>
  obtain ⟨raw,r⟩:=p
  obtain ⟨h1,_⟩:=ql.1 hr
  rw [h1,yh,IL fl IK] at h
  omega
theorem Uu {fl:Nat} {l:List UInt8} {i:Nat} (h:Lib.index l (bu fl)=(i:Nat)) (ho:Lib.occAt l (bu fl) i=true):iW fl l=match jE (bE fl) (l.take i) with
  | none=>none
  | some raw=>some (raw,l.drop (i+(bu fl).length)):=by
 have hl:l=l.take i++(bu fl++l.drop (i+(bu fl).length)):=by
  unfold Lib.occAt at ho
  obtain ⟨t,ht⟩:=List.isPrefixOf_iff_prefix.1 ho
  have:l.drop (i+(bu fl).length)=t:=by rw [←List.drop_drop,←ht,List.drop_left]
  rw [this,ht,List.take_append_drop]
 cases hs:jE (bE fl) (l.take i) with
 | some raw =>
  obtain ⟨h1,h2⟩:=yZ.1 hs
  refine ql.2 ⟨?_,h2⟩
  rw [yh,←h1]
  exact hl
 | none =>
  simp only
  cases hr:iW fl l with
  | none=>rfl
  | some p =>
   obtain ⟨raw,r⟩:=p
   obtain ⟨h1,h2⟩:=ql.1 hr
   have h3:=h
   rw [h1,yh,IL fl IK] at h3
   have hi:i=(58::cf (bE fl) raw:List UInt8).length:=aa
   rw [h1,yh,hi,List.take_left] at hs
   rw [yZ.2 ⟨rfl,h2⟩] at hs
   cases hs
def wV (lo:Bool):List UInt8:=(List.range 16).map (eb lo)
def mE (lo:Bool) (c:UInt8):Int:=match eA lo c with
 | none => -1
 | some n=>n
theorem Gb (lo:Bool) (c:UInt8):Lib.indexByte (wV lo) c=mE lo c:=by
 have key:∀n,n<256→Lib.indexByte (wV true) (UInt8.ofNat n)=mE true (UInt8.ofNat n)∧Lib.indexByte (wV false) (UInt8.ofNat n)=mE false (UInt8.ofNat n):=by decide +kernel
 have:=key c.toNat c.toNat_lt
 rw [UInt8.ofNat_toNat] at this
 cases lo
 ·exact this.2
 ·exact this.1
theorem Ws {l:List UInt8} {k:Nat} (h:k<l.length):fQ (l.take (k+1))=fQ (l.take k)+l[k].toNat:=by
 rw [List.take_succ_eq_append_getElem h,KQ]
 simp [fQ]
theorem HA {lo:Bool} {c:UInt8}:mE lo c<0↔eA lo c=none:=by
 unfold mE
 cases eA lo c with
 | none=>simp
 | some n=>simp
theorem BG {lo:Bool} {c:UInt8} {n:Nat} (h:eA lo c=some n):mE lo c=n:=by unfold mE;rw [h]
theorem Qv {lo:Bool} {raw:List UInt8} {k:Nat} {x y:Nat} (hx:x<16) (hy:y<16):cf lo raw++[eb lo x,eb lo y]=cf lo (raw++[UInt8.ofNat (16*x+y)]):=by
 unfold cf
 rw [List.flatMap_append]
 have e:(UInt8.ofNat (16*x+y)).toNat=16*x+y:=bW aa
 simp only [List.flatMap_cons,List.flatMap_nil,List.append_nil]
 rw [e,show (16*x+y) / 16=x by omega,show (16*x+y)%16=y by omega]
theorem HF {lo:Bool}:∀ {raw:List UInt8} {k:Nat},k<raw.length→(∃x,x<16∧(cf lo raw)[2*k]?=some (eb lo x))∧∃y,y<16∧(cf lo raw)[2*k+1]?=some (eb lo y)
 | [],k,h=>by simp at h
 | c::raw,0,_=>by
  obtain ⟨c1,c2,_⟩:=nD c
  exact ⟨⟨_,c1,rfl⟩,_,c2,rfl⟩
 | c::raw,k+1,h=>by
  have:=HF (lo:=lo) (raw:=raw) (k:=k) (by simpa using h)
  have e1:(cf lo (c::raw))[2*(k+1)]?=(cf lo raw)[2*k]?:=by
   show (_::_::cf lo raw)[2*k+1+1]?=_
   rfl
  have e2:(cf lo (c::raw))[2*(k+1)+1]?=(cf lo raw)[2*k+1]?:=by
   show (_::_::cf lo raw)[2*k+1+1+1]?=_
   rfl
  rw [e1,e2]
  exact this
theorem Uy {lo:Bool} {t:List UInt8} {k:Nat} (h:k<t.length) (hd:eA lo t[k]=none):jE lo (58::t)=none:=J5 fun raw he=>by
 exfalso
 rw [List.cons.injEq] at he
 obtain ⟨_,he⟩:=he
 subst he
 rw [xF] at h
 obtain ⟨⟨x,hx,h1⟩,y,hy,h2⟩:=HF (lo:=lo) (raw:=raw) (k:=k / 2) aa
 have hg:(cf lo raw)[k]?=some ((cf lo raw)[k]'(by rw [xF];exact h)):=List.getElem?_eq_getElem _
 by_cases e:k%2=0
 ·rw [show 2*(k / 2)=k by omega,hg] at h1
  rw [Option.some.inj h1,rI hx] at hd
  cases hd
 ·rw [show 2*(k / 2)+1=k by omega,hg] at h2
  rw [Option.some.inj h2,rI hy] at hd
  cases hd
theorem Uz {lo:Bool} {t:List UInt8} (h:t.length%2≠0):jE lo (58::t)=none:=J5 fun raw he=>by
 rw [List.cons.injEq] at he
 rw [he.2,xF] at h
 omega
theorem Ux {lo:Bool} {raw:List UInt8}:jE lo (58::cf lo raw)=if gg raw then some raw else none:=by
 rw [yX,C1]
 simp only [true_and]
abbrev zh:List UInt8:=[97,116]
abbrev zi:List UInt8:=[100,97,116,97]
abbrev oC (s:aT):ah:=.mk 4 0 [] [zh,zi] [.mk 1 (s.1:Int) [] [] [],.mk 2 0 s.2 [] []]
abbrev ju (S:List aT):ah:=.mk 3 0 [] [] (S.map oC)
abbrev ints (Z:List Nat):List Int:=Z.map fun (n:Nat)=>(n:Int)
def fx (fl:Nat) (Z:List Nat):List UInt8:=if fl=0∧Z=[] then [] else ax fl++bj ax (ints Z)
def fR (S:List aT) (Z:List Nat):List Nat:=if Z=fF S then [] else Z
def fY (fl:Nat) (l:List UInt8):Option (ah×List UInt8):=match pJ fl l with
 | none=>none
 | some (S,Z)=>if (bC (ju S)).1=0 then some (ju S,fx fl (fR S Z)) else none
def xG (l:List UInt8):Nat→Option (ah×List UInt8)
 | 0=>none
 | n+1=>match fY (3 - n) l with
  | some x=>some x
  | none=>xG l n
def eZ (l:List UInt8):Option (ah×List UInt8):=xG l 4
def DO (r:ah):Option aT:=if r.kind=4∧r.names=[zh,zi] then (match r.parts with
 | [a,d]=>if a.kind=1∧d.kind=2∧0≤a.num∧a.num<65536∧d.bytes≠[]∧(d.bytes.length:Int)≤65536 - a.num then some (a.num.toNat,d.bytes) else none
 | _=>none) else none
def xL (v:ah):Option (List aT):=if v.kind=3 then allM DO v.parts else none
def DY (z:List Int):Prop:=∀n∈z,1≤n∧n≤255
instance (z:List Int):Decidable (DY z):=by unfold DY;infer_instance
def BM (b:List UInt8):Option (Int×List Int):=match cC b 0 with
 | .bad _ _=>none
 | .ok c p=>match dK b (cC b) 1000 p with
  | .bad _ _=>none
  | .ok z q=>if q=b.length then some (c,z) else none
def xJ (b:List UInt8):Option (Nat×List Nat):=if b=[] then some (0,[]) else match BM b with
 | none=>none
 | some (c,z)=>if (0≤c∧c<4)∧¬(c=0∧z=[])∧DY z then some (c.toNat,z.map Int.toNat) else none
noncomputable def xH (v:ah) (b:List UInt8):Option (List UInt8):=match xL v with
 | none=>none
 | some S=>match xJ b with
  | none=>none
  | some (fl,Z)=>match BK fl S Z with
   | none=>none
   | some o=>if o.length≤1000∧eZ o=some (v,b) then some o else none
abbrev SA:List UInt8:=[108,111,119,101,114,32,99,97,115,101]
abbrev Sz:List UInt8:=[99,97,114,114,105,97,103,101,32,114,101,116,117,114,110,32,97,110,100,32,108,105,110,101,32,102,101,101,100]
abbrev SD:List UInt8:=[114,101,99,111,114,100,115]
def uP (fl n:Nat):List jN:=(if fl%2=1 then [(SA,1)] else [])++(if 2≤fl then [(Sz,1)] else [])++(if 0<n then [(SD,(n:Int))] else [])
def HI (b:List UInt8):Option (List jN):=match xJ b with
 | none=>none
 | some (fl,Z)=>some (uP fl Z.length)
theorem Ct (Z:List Nat):(ints Z).map Int.toNat=Z:=by
 unfold ints
 rw [List.map_map]
 conv=>rhs;rw [←List.map_id Z]
 exact List.map_congr_left fun x _=>by simp
theorem Qy {fl:Nat} {Z:List Nat} (hf:fl<4) (hl:Z.length≤1000) (hz:∀n∈Z,n≤255):BM (ax fl++bj ax (ints Z))=some ((fl:Int),ints Z):=by
 obtain ⟨b,hb⟩:∃b,b=ax (fl:Int)++bj ax (ints Z):=⟨_,rfl⟩
 rw [←hb]
 have e1:b=[]++(ax (fl:Int)++bj ax (ints Z)):=by rw [hb];rfl
 have n1:=gS (n:=(fl:Int)) aa aa [] (bj ax (ints Z))
 rw [←e1] at n1
 have e2:b=ax (fl:Int)++(ax ((ints Z).length:Int)++((ints Z).flatMap ax++[])):=by rw [hb,bj,List.append_nil]
 have cq:(ints Z).length=Z.length:=ae
 have n2:=gS (n:=((ints Z).length:Int)) aa aa (ax (fl:Int)) ((ints Z).flatMap ax++[])
 rw [←e2] at n2
 have hbl:=congrArg List.length e2
 simp only [List.length_append,List.length_nil] at hbl
 have n3:=rT (f:=ax) (b:=b) (one:=cC b) (ints Z) ((ax (fl:Int)).length+(ax ((ints Z).length:Int)).length) aa (fun x hx q r hq hd=>by
  obtain ⟨n,hn,rfl⟩:=List.mem_map.1 hx
  have:=hz n hn
  have e:b=b.take q++(ax (n:Int)++r):=by rw [←hd,List.take_append_drop]
  have dI:(b.take q).length=q:=by simp;omega
  have:=gS (n:=(n:Int)) aa aa (b.take q) r
  rwa [dI,←e] at this) [] (by
   rw [←List.drop_drop]
   conv=>lhs;rw [e2]
   rw [List.drop_left,List.drop_left])
 unfold BM
 simp only [List.length_nil,Nat.zero_add] at n1
 rw [n1]
 simp only
 unfold dK
 rw [n2]
 simp only
 rw [if_neg aa,Int.toNat_natCast,n3]
 simp only
 rw [if_pos aa]
theorem HJ {fl:Nat} {Z:List Nat} (hf:fl<4) (hl:Z.length≤1000) (hz:∀n∈Z,1≤n∧n≤255):xJ (fx fl Z)=some (fl,Z):=by
 unfold fx
 split
 ·rename_i h
  obtain ⟨rfl,rfl⟩:=h
  rfl
 ·rename_i hne
  unfold xJ
  rw [if_neg,Qy hf hl fun n hn=>(hz n hn).2]
  ·simp only
   rw [if_pos,Int.toNat_natCast,Ct]
   refine ⟨aa,fun q=>hne ⟨aa,?_⟩,fun n hn=>?_⟩
   ·have:=q.2
    simpa [ints] using this
   ·obtain ⟨m,hm,rfl⟩:=List.mem_map.1 hn
    have:=hz m hm
    omega
  ·intro h
   have:=congrArg List.length h
   have:=kh (zz (fl:Int))
   simp only [List.length_append,ax,List.length_nil] at *
   omega
theorem U0 {fl:Nat} {Z:List Nat}:fx fl Z=[]↔fl=0∧Z=[]:=by
 unfold fx
 constructor
 ·intro h
  split at h
  ·assumption
  ·have:=congrArg List.length h
   have:=kh (zz (fl:Int))
   simp only [List.length_append,ax,List.length_nil] at *
   omega
 ·intro h
  rw [if_pos h]
theorem Sp {fl n:Nat} (hf:fl<4):uP fl n=[]↔fl=0∧n=0:=by
 unfold uP
 by_cases h1:fl%2=1
 ·simp [h1];omega
 ·by_cases h2:2≤fl
  ·simp [h2];omega
  ·by_cases h3:0<n
   ·simp [h3];omega
   ·simp [h1,h2,h3];omega
theorem So (fl n:Nat):(uP fl n).length≤3:=by
 unfold uP
 simp only [List.length_append]
 split<;>split<;>split<;>simp
theorem tA (a:Nat) (Z:List Nat):fW a [] Z=some ([],Z):=by rw [fW]
theorem wR {a:Nat} {d:List UInt8} (h:d≠[]):fW a d []=none:=by
 cases d with
 | nil=>exact absurd rfl h
 | cons c d=>rw [fW]
theorem tz {a n:Nat} {d:List UInt8} {Z:List Nat} (h:d≠[]):fW a d (n::Z)=if n≤d.length then (match fW (a+n) (d.drop n) Z with
  | none=>none
  | some (rs,Z')=>some (iu a 0 (d.take n)::rs,Z')) else none:=by
 cases d with
 | nil=>exact absurd rfl h
 | cons c d=>rw [fW]<;>rfl
theorem AD (Y:List Nat):∀ {Z:List Nat} {a:Nat} {d:List UInt8} {rs:List (List UInt8)} {Z':List Nat},fW a d Z=some (rs,Z')→fW a d (Z++Y)=some (rs,Z'++Y)
 | [],a,d,rs,Z',h=>by
  by_cases hd:d=[]
  ·subst hd
   rw [tA] at h ⊢
   cases h
   rfl
  ·rw [wR hd] at h
   cases h
 | n::Z,a,d,rs,Z',h=>by
  by_cases hd:d=[]
  ·subst hd
   rw [tA] at h ⊢
   cases h
   rfl
  ·rw [List.cons_append]
   rw [tz hd] at h ⊢
   split at h
   ·rename_i hn
    rw [if_pos hn]
    cases hc:fW (a+n) (d.drop n) Z with
    | none=>rw [hc] at h;cases h
    | some p =>
     obtain ⟨q,Z2⟩:=p
     rw [hc] at h
     cases h
     rw [AD Y hc]
   ·cases h
theorem Fq {a:Nat} {c:List UInt8} (hc:c≠[]):fW a c [c.length]=some ([iu a 0 c],[]):=by
 rw [tz hc,if_pos (Nat.le_refl _),List.drop_length,tA,List.take_length]
theorem Fp {c:List UInt8} (hc:c≠[]):∀ {Z:List Nat} {a:Nat} {d:List UInt8} {rs:List (List UInt8)},fW a d Z=some (rs,[])→fW a (d++c) (Z++[c.length])=some (rs++[iu (a+d.length) 0 c],[])
 | [],a,d,rs,h=>by
  by_cases hd:d=[]
  ·subst hd
   rw [tA] at h
   cases h
   exact Fq hc
  ·rw [wR hd] at h
   cases h
 | n::Z,a,d,rs,h=>by
  by_cases hd:d=[]
  ·subst hd
   rw [tA] at h
   cases h
  ·rw [tz hd] at h
   rw [List.cons_append,tz (by simp [hd])]
   split at h
   ·rename_i hn
    rw [if_pos (by rw [List.length_append];omega),List.drop_append_of_le_length hn,List.take_append_of_le_length hn]
    cases hq:fW (a+n) (d.drop n) Z with
    | none=>rw [hq] at h;cases h
    | some p =>
     obtain ⟨q,Z2⟩:=p
     rw [hq] at h
     cases h
     rw [Fp hc hq]
     simp only [List.cons_append,List.length_drop]
     rw [show a+n+(d.length - n)=a+d.length by omega]
   ·cases h
theorem zK {a:Nat} {d:List UInt8} {S:List aT} {Z Z':List Nat} {q qs:List (List UInt8)} (h1:fW a d Z=some (q,Z')) (h2:ew S Z'=some qs):ew ((a,d)::S) Z=some (q++qs):=by
 rw [ew,h1]
 simp only
 rw [h2]
theorem vU {a:Nat} {d:List UInt8} {S:List aT} {Z:List Nat} {rs:List (List UInt8)} (h:ew ((a,d)::S) Z=some rs):∃q Z' qs,fW a d Z=some (q,Z')∧ew S Z'=some qs∧rs=q++qs:=by
 rw [ew] at h
 split at h
 ·cases h
 ·rename_i q Z' h1
  split at h
  ·cases h
  ·rename_i qs h2
   cases h
   exact ⟨q,Z',qs,h1,h2,rfl⟩
theorem L5 {Z:List Nat} {rs:List (List UInt8)} (h:ew [] Z=some rs):Z=[]∧rs=[]:=by
 rw [ew] at h
 split at h
 ·rename_i hz;cases h;exact ⟨hz,rfl⟩
 ·cases h
theorem Ez {a:Nat} {c:List UInt8} (hc:c≠[]):∀ {S:List aT} {Z:List Nat} {rs:List (List UInt8)},ew S Z=some rs→ew (S++[(a,c)]) (Z++[c.length])=some (rs++[iu a 0 c])
 | [],Z,rs,h=>by
  obtain ⟨rfl,rfl⟩:=L5 h
  exact zK (S:=[]) (q:=[iu a 0 c]) (qs:=[]) (Fq hc) (by rw [ew,if_pos rfl])
 | (x,d)::S,Z,rs,h=>by
  obtain ⟨q,Z',qs,h1,h2,rfl⟩:=vU h
  rw [List.cons_append,List.append_assoc]
  exact zK (AD _ h1) (Ez hc h2)
theorem LZ {a:Nat} {d c:List UInt8} (hc:c≠[]):∀ {S:List aT} {Z:List Nat} {rs:List (List UInt8)},ew (S++[(a,d)]) Z=some rs→ew (S++[(a,d++c)]) (Z++[c.length])=some (rs++[iu (a+d.length) 0 c])
 | [],Z,rs,h=>by
  obtain ⟨q,Z',qs,h1,h2,rfl⟩:=vU h
  obtain ⟨rfl,rfl⟩:=L5 h2
  rw [List.append_nil,List.nil_append]
  have:=zK (S:=[]) (Fp hc h1) (by rw [ew,if_pos rfl])
  rwa [List.append_nil] at this
 | (x,e)::S,Z,rs,h=>by
  obtain ⟨q,Z',qs,h1,h2,rfl⟩:=vU h
  rw [List.cons_append,List.append_assoc]
  exact zK (AD _ h1) (LZ hc h2)
def jF (S:List aT):Prop:=∀s∈S,s.1<65536∧s.2≠[]∧s.2.length+s.1≤65536
theorem Ks {S:List aT} {a:Nat} {c:List UInt8} (h:jF S) (hc:c≠[]) (ha:a+c.length≤65536):jF (jT a c S):=by
 have hcl:0<c.length:=List.length_pos_iff.2 hc
 rcases List.eq_nil_or_concat S with rfl|⟨P,x,rfl⟩
 ·intro s hs
  rw [zY] at hs
  simp only [List.mem_singleton] at hs
  subst hs
  exact ⟨by dsimp only;omega,hc,by dsimp only;omega⟩
 ·rw [List.concat_eq_append] at h ⊢
  rw [td]
  split
  ·rename_i he
   intro s hs
   rcases List.mem_append.1 hs with hs|hs
   ·exact h s (by simp [hs])
   ·simp only [List.mem_singleton] at hs
    subst hs
    have:=h x ae
    refine ⟨this.1,by simp [this.2.1],?_⟩
    simp only [List.length_append]
    omega
  ·intro s hs
   rcases List.mem_append.1 hs with hs|hs
   ·exact h s hs
   ·simp only [List.mem_singleton] at hs
    subst hs
    exact ⟨by dsimp only;omega,hc,by dsimp only;omega⟩
theorem XZ {S:List aT} {Z:List Nat} {rs:List (List UInt8)} {a:Nat} {c:List UInt8} (hc:c≠[]) (h:ew S Z=some rs):ew (jT a c S) (Z++[c.length])=some (rs++[iu a 0 c]):=by
 rcases List.eq_nil_or_concat S with rfl|⟨P,x,rfl⟩
 ·exact Ez hc h
 ·rw [List.concat_eq_append] at h ⊢
  rw [td]
  split
  ·rename_i he
   rw [←he]
   exact LZ hc h
  ·exact Ez hc h
theorem X0 {S:List aT} {rs:List (List UInt8)} (hS:jF S) (h:ew S []=some rs):S=[]:=by
 cases S with
 | nil=>rfl
 | cons x S =>
  obtain ⟨a,d⟩:=x
  obtain ⟨q,Z',qs,h1,_,_⟩:=vU h
  rw [wR (hS (a,d) ae).2.1] at h1
  cases h1
theorem Eh (c:UInt8):UInt8.ofNat c.toNat=c:=UInt8.ofNat_toNat
theorem J9 {raw:List UInt8} (h:gg raw):raw=iu (fe raw) (b8 raw 3) (gB raw)∧∀k,b8 raw 3=k→raw=iu (fe raw) k (gB raw):=by
 have key:raw=iu (fe raw) (b8 raw 3) (gB raw):=by
  obtain ⟨h1,h2,h3⟩:=h
  match raw,h1,h2,h3 with
  | x0::x1::x2::x3::t,h1,h2,h3 =>
   have e0:b8 (x0::x1::x2::x3::t) 0=x0.toNat:=rfl
   have e3:b8 (x0::x1::x2::x3::t) 3=x3.toNat:=rfl
   have ea:fe (x0::x1::x2::x3::t)=256*x1.toNat+x2.toNat:=rfl
   have ec:gB (x0::x1::x2::x3::t)=t.take x0.toNat:=rfl
   rw [e0] at h2
   rw [e3,ea,ec]
   simp only [List.length_cons] at h2
   obtain ⟨n,hn⟩:∃n,n=x0.toNat:=⟨_,rfl⟩
   rw [←hn] at h2 ⊢
   have l1:=x1.toNat_lt
   have l2:=x2.toNat_lt
   have ht:t=t.take n++[t[n]'aa]:=by
    have:=List.take_append_drop n t
    conv=>lhs;rw [←this]
    rw [List.drop_eq_getElem_cons aa,List.drop_of_length_le aa]
   obtain ⟨y,hy⟩:∃y,y=t[n]'aa:=⟨_,rfl⟩
   rw [←hy] at ht
   obtain ⟨c,hc⟩:∃c,c=t.take n:=⟨_,rfl⟩
   rw [←hc] at ht ⊢
   have hcl:c.length=n:=by rw [hc];simp;omega
   have hd:y7 (256*x1.toNat+x2.toNat) x3.toNat c=[x0,x1,x2,x3]++c:=by
    unfold y7
    rw [hcl,hn,Eh,Eh,show (256*x1.toNat+x2.toNat) / 256=x1.toNat by omega,Eh]
    have:UInt8.ofNat (256*x1.toNat+x2.toNat)=x2:=by
     apply UInt8.toNat_inj.1
     rw [UInt8.toNat_ofNat']
     omega
    rw [this]
   have hs:fQ (x0::x1::x2::x3::t)=fQ ([x0,x1,x2,x3]++c)+y.toNat:=by
    rw [ht]
    have:fQ (([x0,x1,x2,x3]++c)++[y])=fQ ([x0,x1,x2,x3]++c)+fQ [y]:=KQ _ _
    rw [show x0::x1::x2::x3::(c++[y])=([x0,x1,x2,x3]++c)++[y] from rfl,this]
    rfl
   rw [hs] at h3
   have ly:=y.toNat_lt
   unfold iu KR
   rw [hd,ht]
   have:UInt8.ofNat (256 - fQ ([x0,x1,x2,x3]++c)%256)=y:=by
    apply UInt8.toNat_inj.1
    rw [UInt8.toNat_ofNat']
    omega
   rw [this]
   rfl
 exact ⟨key,fun k hk=>by rw [←hk];exact key⟩
structure Ml (S:List aT) (Z:List Nat) (qs rs:List (List UInt8)):Prop where
 ex:∃init,rs=init++[iu 0 1 []]∧ew S Z=some (qs++init)∧Z.length=qs.length+init.length
 seg:jF S
 sz:∀n∈Z,1≤n∧n≤255
theorem GV {S':List aT} {Z':List Nat}:∀ {rs:List (List UInt8)} {S:List aT} {Z:List Nat} {qs:List (List UInt8)},ew S Z=some qs→Z.length=qs.length→jF S→(∀n∈Z,1≤n∧n≤255)→(∀r∈rs,gg r)→lD S Z rs=some (S',Z')→Ml S' Z' qs rs
 | [],S,Z,qs,_,_,_,_,_,h=>by rw [lD] at h;cases h
 | raw::rs,S,Z,qs,hw,hl,hS,hZ,hr,h=>by
  have hok:=hr raw ae
  by_cases aS:rs=[]
  ·subst aS
   rw [Bf] at h
   split at h
   ·rename_i he
    cases h
    obtain ⟨e1,e2,e3⟩:=he
    have:=(J9 hok).2 1 e3
    rw [e2,show gB raw=[] by unfold gB;rw [e1,List.take_zero]] at this
    refine ⟨⟨[],by rw [this];rfl,by rw [List.append_nil];exact hw,by simpa using hl⟩,hS,hZ⟩
   ·cases h
  ·rw [Be _ _ _ aS] at h
   split at h
   ·rename_i hd
    obtain ⟨d1,d2,d3⟩:=hd
    have hcl:=JW hok
    have rG:gB raw≠[]:=by
     intro e
     rw [e] at hcl
     simp at hcl
     omega
    have e:=(J9 hok).2 0 d1
    have Iq:=XZ (a:=fe raw) rG hw
    rw [hcl,←e] at Iq
    have hb:b8 raw 0≤255:=Nat.le_of_lt_succ (raw[0]?.getD 0).toNat_lt
    obtain ⟨⟨init,i1,i2,i3⟩,i4,i5⟩:=GV Iq (by simp [hl]) (Ks hS rG aa) (fun n hn=>by
     rcases List.mem_append.1 hn with hn|hn
     ·exact hZ n hn
     ·obtain rfl:=List.mem_singleton.1 hn
      exact ⟨Nat.pos_of_ne_zero d2,hb⟩) (fun r hr2=>hr r (by simp [hr2])) h
    refine ⟨⟨raw::init,by rw [i1];rfl,by rw [i2,List.append_assoc];rfl,by simp only [List.length_append,List.length_cons,List.length_nil] at i3 ⊢;omega⟩,i4,i5⟩
   ·cases h
structure wa (fl:Nat) (l:List UInt8) (S:List aT) (Z:List Nat):Prop where
 ex:∃init,l=(init++[iu 0 1 []]).flatMap (gR fl)∧ew S Z=some init∧Z.length=init.length
 seg:jF S
 sz:∀n∈Z,1≤n∧n≤255
 len:2*Z.length≤l.length
theorem IM (fl:Nat):∀rs:List (List UInt8),2*rs.length≤(rs.flatMap (gR fl)).length
 | []=>by simp
 | r::rs=>by
  have:=IM fl rs
  have:=(yg fl r).1
  rw [List.flatMap_cons,List.length_append,List.length_cons]
  omega
theorem HK {fl:Nat} {l:List UInt8} {S:List aT} {Z:List Nat} (h:pJ fl l=some (S,Z)):wa fl l S Z:=by
 unfold pJ at h
 split at h
 ·cases h
 ·rename_i rs hr
  obtain ⟨r1,r2⟩:=oz.1 hr
  obtain ⟨⟨init,i1,i2,i3⟩,i4,i5⟩:=GV (qs:=[]) (by rw [ew,if_pos rfl]) rfl (by unfold jF;simp) ae r2 h
  rw [List.nil_append] at i2
  simp only [List.length_nil,Nat.zero_add] at i3
  refine ⟨⟨init,by rw [←i1];exact r1,i2,i3⟩,i4,i5,?_⟩
  have:=IM fl rs
  rw [←r1,i1,List.length_append] at this
  omega
theorem Qx {fl:Nat} {l:List UInt8} {S:List aT} {Z:List Nat} (h:wa fl l S Z):BK fl S (fR S Z)=some l:=by
 obtain ⟨init,i1,i2,i3⟩:=h.ex
 have e:(if fR S Z=[] then fF S else fR S Z)=Z:=by
  unfold fR
  by_cases hu:Z=fF S
  ·rw [if_pos hu,if_pos rfl,hu]
  ·rw [if_neg hu]
   by_cases hz:Z=[]
   ·exfalso
    rw [hz] at i2
    have:=X0 h.seg i2
    rw [this] at hu
    exact hu (by rw [hz];rfl)
   ·rw [if_neg hz]
 unfold BK
 rw [e,i2,i1]
theorem HM {S:List aT} (h:jF S):xL (ju S)=some S:=by
 unfold xL
 rw [if_pos rfl]
 show allM DO (S.map oC)=some S
 refine qU ae fun i x y hx hy=>?_
 rw [List.getElem?_map,hy] at hx
 cases hx
 obtain ⟨h1,h2,h3⟩:=h y (List.mem_of_getElem? hy)
 unfold DO
 rw [if_pos ⟨rfl,rfl⟩]
 simp only
 rw [if_pos ⟨by trivial,by trivial,by show (0:Int)≤(y.1:Int);omega,by show (y.1:Int)<65536;omega,h2,by show (y.2.length:Int)≤65536 - (y.1:Int);omega⟩]
 rfl
theorem HH {l:List UInt8} {x:ah×List UInt8}:∀ {n:Nat},xG l n=some x→∃fl,fl<4∧fY fl l=some x
 | 0,h=>by cases h
 | n+1,h=>by
  unfold xG at h
  split at h
  ·rename_i y hy
   cases h
   exact ⟨3 - n,aa,hy⟩
  ·exact HH h
theorem Qw {fl:Nat} {l:List UInt8} {v:ah} {r:List UInt8} (h:fY fl l=some (v,r)):∃S Z,pJ fl l=some (S,Z)∧(bC (ju S)).1=0∧v=ju S∧r=fx fl (fR S Z):=by
 unfold fY at h
 split at h
 ·cases h
 ·rename_i S Z hr
  split at h
  ·rename_i hv
   cases h
   exact ⟨S,Z,hr,hv,rfl,rfl⟩
  ·cases h
theorem HO {l:List UInt8} {v:ah} {r:List UInt8} (h:eZ l=some (v,r)):∃fl S Z,fl<4∧wa fl l S Z∧(bC (ju S)).1=0∧v=ju S∧r=fx fl (fR S Z):=by
 obtain ⟨fl,hf,h1⟩:=HH h
 obtain ⟨S,Z,h2,h3,h4,h5⟩:=Qw h1
 exact ⟨fl,S,Z,hf,HK h2,h3,h4,h5⟩
theorem KS {fl:Nat} {l:List UInt8} {S:List aT} {Z:List Nat} (h:wa fl l S Z):(fR S Z).length≤Z.length∧∀n∈fR S Z,1≤n∧n≤255:=by
 unfold fR
 split
 ·exact ⟨Nat.zero_le _,ae⟩
 ·exact ⟨Nat.le_refl _,h.sz⟩
theorem QC {l:List UInt8} {v:ah} {r:List UInt8} (hl:l.length≤1000) (h:eZ l=some (v,r)):xH v r=some l:=by
 obtain ⟨fl,S,Z,hf,F,h3,h4,h5⟩:=HO h
 have hz:=KS F
 have:=F.len
 unfold xH
 rw [h4,HM F.seg]
 simp only
 rw [h5,HJ hf aa hz.2]
 simp only
 rw [Qx F]
 simp only
 rw [if_pos ⟨hl,by rw [h,h4,h5]⟩]
theorem Dc {Z:List Nat} (hl:Z.length≤1000) (hz:∀n∈Z,n≤255):(bj ax (ints Z)).length≤10010:=by
 have:=ov (f:=ax) (m:=10) (l:=ints Z) (by simp;omega) fun x hx=>by
  obtain ⟨n,hn,rfl⟩:=List.mem_map.1 hx
  have:=hz n hn
  exact cD aa aa
 simp only [List.length_map] at this
 omega
theorem UZ {fl:Nat} {Z:List Nat} (hf:fl<4) (hl:Z.length≤1000) (hz:∀n∈Z,n≤255):(fx fl Z).length≤10020:=by
 have h1:=Dc hl hz
 have h2:=cD (n:=(fl:Int)) aa aa
 unfold fx
 split
 ·simp
 ·rw [List.length_append];omega
theorem XO {s:aT} (h:s.1<65536∧s.2≠[]∧s.2.length+s.1≤65536):VB 1048576 (oC s) :=
 .mk (fL 4) (fL 0) (Nat.zero_le _) (by show 2≤_;omega) (by
  intro x hx
  simp only [List.mem_cons,List.not_mem_nil,or_false] at hx
  rcases hx with rfl|rfl<;>decide) (by show 2≤_;omega) (by
  intro x hx
  simp only [List.mem_cons,List.not_mem_nil,or_false] at hx
  rcases hx with rfl|rfl
  ·exact sQ ⟨aa,aa⟩
  ·exact qC aa)
theorem LJ {S:List aT} (h:jF S) (hl:S.length≤1000000):VB 1048576 (ju S) :=
 .mk (fL 3) (fL 0) (Nat.zero_le _) (Nat.zero_le _) ae (by show (S.map oC).length≤_;simp;omega) (by
  intro x hx
  obtain ⟨s,hs,rfl⟩:=List.mem_map.1 (show x∈S.map oC from hx)
  exact XO (h s hs))
theorem Ey:∀ {S:List aT} {Z:List Nat} {rs:List (List UInt8)},jF S→ew S Z=some rs→S.length≤rs.length
 | [],_,_,_,_=>Nat.zero_le _
 | (a,d)::S,Z,rs,hS,h=>by
  obtain ⟨q,Z',qs,h1,h2,rfl⟩:=vU h
  have:=Ey (fun s hs=>hS s (by simp [hs])) h2
  have hd:=(hS (a,d) ae).2.1
  have hq:1≤q.length:=by
   cases Z with
   | nil=>rw [wR hd] at h1;cases h1
   | cons n Z =>
    rw [tz hd] at h1
    split at h1
    ·split at h1
     ·cases h1
     ·cases h1;simp
    ·cases h1
  simp only [List.length_append,List.length_cons]
  omega
theorem QD {b:List UInt8} {v:ah} {r:List UInt8} (hl:b.length≤1000) (h:eZ b=some (v,r)):VB 1048576 v∧(bC v).1=0∧(xL v).isSome=true∧xH v r=some b∧r.length≤100000000∧∃ls,HI r=some ls∧ls.length≤4∧(ls=[]↔r=[]):=by
 have cr:=QC hl h
 obtain ⟨fl,S,Z,hf,F,h3,h4,h5⟩:=HO h
 obtain ⟨z1,z2⟩:=KS F
 have hlen:=F.len
 obtain ⟨init,i1,i2,i3⟩:=F.ex
 have tT:=Ey F.seg i2
 refine ⟨by rw [h4];exact LJ F.seg aa,by rw [h4];exact h3,by rw [h4,HM F.seg];rfl,cr,?_,?_⟩
 ·rw [h5]
  have:=UZ hf (Z:=fR S Z) aa fun n hn=>(z2 n hn).2
  omega
 ·unfold HI
  rw [h5,HJ hf aa z2]
  refine ⟨_,rfl,by have:=So fl (fR S Z).length;omega,?_⟩
  rw [Sp hf,U0,List.length_eq_zero_iff]
theorem HN (l:List UInt8):eZ l=match fY 0 l with
  | some x=>some x
  | none=>match fY 1 l with
   | some x=>some x
   | none=>match fY 2 l with
    | some x=>some x
    | none=>match fY 3 l with
     | some x=>some x
     | none=>none:=rfl
theorem QA {l:List UInt8} {f:Nat} (hf:f<4) (hno:∀g,g<f→fY g l=none) {x:ah×List UInt8} (h:fY f l=some x):eZ l=some x:=by
 rw [HN]
 obtain rfl|rfl|rfl|rfl:f=0∨f=1∨f=2∨f=3:=aa
 ·rw [h]
 ·rw [hno 0 aa,h]
 ·rw [hno 0 aa,hno 1 aa,h]
 ·rw [hno 0 aa,hno 1 aa,hno 2 aa,h]
theorem Qz {l:List UInt8} (h:∀g,g<4→fY g l=none):eZ l=none:=by
 rw [HN,h 0 aa,h 1 aa,h 2 aa,h 3 aa]
abbrev oT:=Int×ah×List UInt8
abbrev pb (k:Int) (x:ah×List UInt8):oT:=(k,x.1,x.2)
def eK (l:List UInt8):oT:=match eo l with
 | some x=>pb 3 x
 | none=>match eg l with
  | some x=>pb 2 x
  | none=>match eZ l with
   | some x=>pb 6 x
   | none=>match eD l with
    | some x=>pb 4 x
    | none=>match fi l with
     | some x=>pb 5 x
     | none=>match eR l with
      | some x=>pb 1 x
      | none=>(0,.mk 2 0 l [] [],[])
def oU (x:oT) (l:List UInt8):Prop:=(x.1=3∧vz x.2.1 x.2.2=some l)∨(x.1=2∧va x.2.1 x.2.2=some l)∨(x.1=6∧xH x.2.1 x.2.2=some l)∨(x.1=4∧sI x.2.1 x.2.2=some l)∨(x.1=5∧zu x.2.1 x.2.2=some l)∨(x.1=1∧ja x.2.1 x.2.2=some l)∨(x.1=0∧x.2.1.bytes=l)
theorem tB {l:List UInt8} (hl:l.length≤1000):oU (eK l) l∧VB 1048576 (eK l).2.1∧(eK l).2.2.length≤100000000:=by
 unfold eK
 cases h1:eo l with
 | some x =>
  obtain ⟨a,_,_,b,c,_⟩:=Wf hl h1
  exact ⟨.inl ⟨rfl,b⟩,a,c⟩
 | none =>
 cases h2:eg l with
 | some x =>
  obtain ⟨a,_,_,b,c,_⟩:=T8 hl h2
  exact ⟨.inr (.inl ⟨rfl,b⟩),a,c⟩
 | none =>
 cases h3:eZ l with
 | some x =>
  obtain ⟨a,_,_,b,c,_⟩:=QD hl h3
  exact ⟨.inr (.inr (.inl ⟨rfl,b⟩)),a,c⟩
 | none =>
 cases h4:eD l with
 | some x =>
  obtain ⟨a,_,_,b,c,_⟩:=WH hl h4
  exact ⟨.inr (.inr (.inr (.inl ⟨rfl,b⟩))),a,c⟩
 | none =>
 cases h5:fi l with
 | some x =>
  obtain ⟨a,_,_,b,c,_⟩:=W7 hl h5
  exact ⟨.inr (.inr (.inr (.inr (.inl ⟨rfl,b⟩)))),a,c⟩
 | none =>
 cases h6:eR l with
 | some x =>
  obtain ⟨a,_,_,b,c,_⟩:=Xm hl h6
  exact ⟨.inr (.inr (.inr (.inr (.inr (.inl ⟨rfl,b⟩))))),a,c⟩
 | none=>exact ⟨.inr (.inr (.inr (.inr (.inr (.inr ⟨rfl,rfl⟩))))),qC aa,Nat.zero_le _⟩
theorem oU.inj {x:oT} {a b:List UInt8} (h:oU x a) (k:oU x b):a=b:=by
 obtain ⟨n,v,r⟩:=x
 unfold oU at h k
 dsimp only at h k
 rcases h with ⟨h0,h⟩|⟨h0,h⟩|⟨h0,h⟩|⟨h0,h⟩|⟨h0,h⟩|⟨h0,h⟩|⟨h0,h⟩<;>rcases k with ⟨k0,k⟩|⟨k0,k⟩|⟨k0,k⟩|⟨k0,k⟩|⟨k0,k⟩|⟨k0,k⟩|⟨k0,k⟩<;>first
  | omega
  | exact Option.some.inj (h.symm.trans k)
  | exact h.symm.trans k
theorem oU.i64 {x:oT} {l:List UInt8} (h:oU x l):bI x.1:=by
 rcases h with ⟨h,_⟩|⟨h,_⟩|⟨h,_⟩|⟨h,_⟩|⟨h,_⟩|⟨h,_⟩|⟨h,_⟩<;>rw [h]<;>decide
theorem Oj {a b:List UInt8} (ha:a.length≤1000) (hb:b.length≤1000) (h:eK a=eK b):a=b:=by
 have h1:=(tB ha).1
 rw [h] at h1
 exact h1.inj (tB hb).1
theorem Rel.Fo {P:Program} {T:List TD} (hT:aQ P T) {t t2 ty e:TypeId} {d de:TD} (hd:T[t]?=some d) (hu:d.under=.slice e) (hde:T[e]?=some de) (hsz:de.size=1)
  {w0 V0 V w:World} {own:List ak} (H:Rel w0 V0 own V w) {i b:Nat} {c:List Value} {e':TypeId} (hi:own[i]?=some (.al b c e')) {o dl dc n:Nat} {x:Sl} {ys:List Value} (hx:Cells w x.a ys) (hn:n=min x.len dl) (hy:ys.length=n) (hn0:0<n) (hfit:o+n≤c.length) (h1:∀u∈ys,u.oneCell'=true)
  {k:Value→World→Prop} (hk:∀w',Rel w0 V0 (own.set i (.al b (c.take o++ys++c.drop (o+n)) e')) V w'→k (iv n) w'):aH P (Builtin.copy_ #[t,t2] ty #[.slice (some ⟨b,o,none⟩) dl dc,x.v]) w k:=by
 have uc:=hT t d hd
 obtain ⟨j,hj,hj1,eM,YW⟩:=(hT e de hde).info
 have ht:P.underlying t=some (.slice e):=by
  obtain ⟨d0,q1,q2⟩:=uc.under
  rw [hu] at q2
  cases d0<;>first|(simp_all [bO];done)|(simp only [bO] at q2;split at q2<;>cases q2)
 have hb:=H.lz hi
 have hne:ys≠[]:=fun h=>by rw [h] at hy;simp at hy;omega
 have hpl:=hx.1 hne
 have Co:x.v=.slice (some ⟨aN x.a,aI x.a,none⟩) x.len x.cap:=by
  show Value.slice x.a x.len x.cap=_
  conv=>lhs;rw [hpl]
 rw [Co]
 have e8:=run_copy_row (P:=P) w t t2 ty e b o dl dc ⟨aN x.a,aI x.a,none⟩ x.len x.cap c.toArray e' ys ht (by rw [hj];exact congrArg some (hj1.trans hsz)) hb (by rw [hy,hn]) (fun j v hj=>by rw [addr_add];exact hx.2 j v hj) (by rw [List.size_toArray];omega) h1
 rw [hy] at e8
 refine .of e8 (hk _ (H.Er hi ⟨?_⟩))
 have hlt:b<w.heap.size:=(Array.getElem?_eq_some_iff.1 hb).1
 have dG:w.heap[b]=.cells c.toArray e' (0,0):=(Array.getElem?_eq_some_iff.1 hb).2
 unfold World.setRow
 congr 1
 apply Array.ext_getElem?
 intro m
 rw [Array.getElem?_modify,Array.getElem?_setIfInBounds]
 by_cases hm:b=m
 ·subst hm
  rw [if_pos rfl,if_pos rfl,if_pos hlt,Array.getElem?_eq_getElem hlt,dG]
  rfl
 ·rw [if_neg hm,if_neg hm]
theorem MK:aV .and .u64 1 4294967295=1:=by decide +kernel
theorem ML:∀y:Nat,y<256→aV .and .u64 (y:Int) 4294967295=(y:Int):=by decide +kernel
section
variable {V W:World}
theorem Ta {y:Nat} (hy:y<256) (w:World):aj Tryz.prog 355 [.int .u64 1,.int .u64 (y:Int)].toArray w fun v w'=>v=.tuple #[.int .u64 0,.int .u64 (y:Int)]∧w=w':=by
 refine eV Tryz.func355 51 [0,1,4,5,6,7,8,9,10,11,12,13] ?_
 refine wk ?_
 have TK:(2:Int) ^ min (Int.toNat 32) IntKind.u64.bits=4294967296:=ag
 have e0:(y:Int) / 4294967296=0:=aa
 have e1:(1:Int) / 4294967296=0:=ag
 have wz:wr .u64 0=0:=ag
 have wy:wr .u64 (y:Int)=y:=by
  show (y:Int)%18446744073709551616=y
  omega
 have a0:aV .and .u64 0 4294967295=0:=by decide +kernel
 simp only [TK,MK,ML y hy,e0,e1,Int.zero_mul,Int.one_mul,Int.mul_zero,wz,wy,Int.zero_add,Int.add_zero,Int.zero_ediv,a0]
 exact ⟨trivial,trivial⟩
theorem Tb {y:Nat} (hy:y<256) (w:World):aj Tryz.prog 329 [.int .u64 1,.int .u64 (y:Int)].toArray w fun v w'=>v=.tuple #[.int .u64 0,.int .u64 (y:Int)]∧w=w':=by
 refine eV Tryz.func329 30 [0,1,4,5,6,7,8,9] ?_
 refine wk ?_
 refine (Ta hy w).use ?_
 rintro v w' ⟨rfl,rfl⟩
 (repeat ((conv=>whnf);first|refine an ?_|refine H.ce ?_|refine H.db ?_|refine ea ?_|refine ol ?_|fail|refine cT ?_|refine cF ?_|refine cN ?_|refine cM ?_|refine H.lw ?_|refine H.ll ?_));(conv=>whnf)
theorem UX {m n:Nat} {u z:Value} (h:m≤n):(List.replicate m u++List.replicate (n - m) z).take m++List.replicate (min m (n - m)) u++(List.replicate m u++List.replicate (n - m) z).drop (m+min m (n - m))=List.replicate (m+min m (n - m)) u++List.replicate (n - (m+min m (n - m))) z:=by
 rw [List.take_left' ae,←List.drop_drop,List.drop_left' ae,List.replicate_append_replicate,List.drop_replicate]
 congr 2
 omega
theorem UY (hV:Sub V W) {s:Sl} {u:UInt8} (hs:ao V s [u]) {n:Nat} (h1:1≤n) (hn:n<256):aj Tryz.prog 308 [s.v,iv (n:Int)].toArray W fun v w'=>∃r:Sl,v=r.v∧Rel W V [.row r 5 1 ((List.replicate n u).flatMap ay)] V w':=by
 have H:=Rel.start hV
 have hlen:=hs.len
 rw [List.length_singleton] at hlen
 refine eV Tryz.func308 48 [0,1,4,5,6,7,8,10,26,37] ?_
 refine wk ?_
 rw [show wr .u64 ((s.len:Nat):Int)=1 by rw [hlen];rfl,show wr .u64 (n:Int)=(n:Int) by show (n:Int)%18446744073709551616=n;omega]
 refine (Tb hn W).use ?_
 rintro v w' ⟨rfl,rfl⟩
 refine wk ?_
 refine VG ad rfl rfl rfl rfl rfl rfl aa (by simp;omega) aa fun w b H7=>?_
 replace H:=H.yt H7
 clear H7
 simp only [Int.toNat_natCast] at H ⊢
 refine wk ?_
 refine Rel.Fo ad rfl rfl rfl rfl H (i:=0) (n:=1) rfl (hs.up H.data).cells aa rfl ag (by simp;omega) A9 ?_
 clear H
 intro w H
 simp only [List.set_cons_zero] at H
 replace H:=H.cj (c':=List.replicate 1 (bv u)++List.replicate (n - 1) (Value.int .u8 0)) (by simp [List.drop_replicate])
 refine wk ?_
 refine aK (S:=Nat) ad [0,1,4,5,6,7,10,26] (fun m=>[(7,.slice (some ⟨b,0,none⟩) n n),(8,iv m)]) (fun m w'=>1≤m∧m≤n∧Rel W V [.al b (List.replicate m (bv u)++List.replicate (n - m) (Value.int .u8 0)) 5] V w') (fun m _=>n - m) 1 ?_
 conv=>whnf
 refine ⟨sB,⟨aa,h1,H⟩,?_⟩
 clear H
 rintro m w ⟨uq,hm,H⟩
 dsimp only at uq hm H ⊢
 by_cases hlt:m<n
 ·refine wk ?_
  refine dV 9 [] [0,1,2,3,4,5,6,7,8,9] H ?_;clear H;intro w H
  refine wk ?_
  simp only [Int.toNat_natCast]
  rw [show aD (some ⟨b,0,none⟩) m n 1=some ⟨b,m,none⟩ by unfold aD;rw [if_neg aa];simp [addr_add]]
  have hb:=(H.lz (i:=0) rfl).cells
  have hc:Cells w (aD (some ⟨b,0,none⟩) 0 n 1) (List.replicate (min m (n - m)) (bv u)):=by
   rw [show aD (some ⟨b,0,none⟩) 0 n 1=some ⟨b,0,none⟩ by unfold aD;split<;>simp [addr_add]]
   refine ⟨fun _=>rfl,fun j v hj=>hb.2 j v ?_⟩
   obtain ⟨hj1,eM⟩:=List.getElem?_eq_some_iff.1 hj
   rw [List.length_replicate] at hj1
   rw [List.getElem?_append_left (by simp;omega)]
   rw [List.getElem_replicate] at eM
   rw [List.getElem?_replicate,if_pos aa,eM]
  refine Rel.Fo ad rfl rfl rfl rfl H (i:=0) (n:=min m (n - m)) (x:=⟨aD (some ⟨b,0,none⟩) 0 n 1,m - 0,n - 0⟩) rfl hc (by show min m (n - m)=min (m - 0) (n - m);omega) ae aa (by simp;omega) (fun u' hu=>by rw [(List.mem_replicate.1 hu).2];rfl) ?_
  clear H
  intro w H
  simp only [List.set_cons_zero] at H
  rw [UX hm] at H
  refine wk ?_
  exact ⟨sB,sB,m+min m (n - m),sB,⟨aa,aa,H⟩,aa⟩
 ·obtain rfl:m=n:=aa
  refine wk ?_
  replace H:=H.cj (c':=(List.replicate m u).flatMap ay) (by rw [fm,List.map_replicate];simp)
  exact ⟨⟨some ⟨b,0,none⟩,m,m⟩,rfl,H.gj (n:=m) (sz:=1) (by simp [fm]) (by simp only [maxLen];omega)⟩
theorem ao.one {q:Sl} {X:List UInt8} {x:UInt8} (h:ao V q (x::X)):ao V ⟨aD q.a 0 1 1,1,1⟩ [x]:=by
 obtain ⟨p,c⟩:=h.aP (g:=bv) (fun _=>rfl) (show 0<(x::X).length by simp)
 refine ⟨rfl,Nat.le_refl _,fun _=>(qy p:Plain (aD q.a 0 1 1)),fun j v hj=>?_⟩
 show V.cell? ⟨aN (aD q.a 0 1 1),aI (aD q.a 0 1 1)+j,none⟩=some v
 rw [qw,qx p ag]
 cases j with
 | zero=>simp at hj;rw [←hj];exact c
 | succ j=>simp at hj
structure My (W V:World) (o:Option (List UInt8)) (v:Value) (w':World):Prop where
 ex:∃(V':World) (r:Sl),Sub V V'∧Rel W V [] V' w'∧(match o with
  | none=>v=.tuple #[r.v,.bool false]
  | some o=>v=.tuple #[r.v,.bool true]∧ao V' r o)
theorem On {l o:List UInt8} {size:Nat} {A:List UInt8} (h:gp l=(gp o).map (A++·)) (hA:size<A.length):jI l size=none:=by
 unfold jI
 rw [h]
 cases gp o with
 | none=>rfl
 | some y =>
  show (if (A++y).length=size∧fc (A++y)=l then some (A++y) else none)=none
  rw [if_neg]
  rw [List.length_append]
  omega
theorem Xz (hV:Sub V W) {s:Sl} {l:List UInt8} (hs:ao V s l) (hl:l.length≤100000) {size:Nat} (hm:size≤100000):aj Tryz.prog 273 [s.v,iv (size:Int)].toArray W (My W V (jI l size)):=by
 have H:=Rel.start hV
 have hlen:=hs.len
 refine eV Tryz.func273 72 [0,1,4,5,6,7,8,18,25,42] ?_
 refine wk ?_
 replace H:=H.bw 5 1
 refine aK (S:=Sl×List UInt8×Sl×List UInt8) ad [0,1] (fun k=>[(6,k.2.2.1.v),(7,k.1.v)]) (fun k w'=>ao V k.1 k.2.1∧gp l=(gp k.2.1).map (k.2.2.2++·)∧k.2.1.length≤l.length∧k.2.2.2.length≤size+129∧Rel W V [.row k.2.2.1 5 1 (k.2.2.2.flatMap ay)] V w') (fun k _=>k.2.1.length) (s,l,⟨none,0,0⟩,[]) ?_
 conv=>whnf
 refine ⟨sB,⟨hs,ae,Nat.le_refl _,Nat.zero_le _,H⟩,?_⟩
 clear H
 rintro ⟨q,X,r,A⟩ w ⟨hq,hd,hX,hA,H⟩
 dsimp only at hq hd hX hA H ⊢
 have dI:=hq.len
 have xV:=hq.cap
 have hrl:r.len=A.length:=H.dz (i:=0) rfl (fun _=>rfl) ag
 by_cases bR:size<A.length
 ·have Q0:=On hd bR
  rw [Q0]
  obtain ⟨V2,hV2,H,hr⟩:=Rel.aJ H (fun _=>rfl) ag
  by_cases h0:X.length=0
  all_goals
   refine wk ?_
   exact ⟨V2,r,hV2,H.sx,rfl⟩
 cases X with
 | nil =>
  rw [List.length_nil] at dI
  rw [F4] at hd
  have hd:gp l=some A:=by rw [hd];simp
  obtain ⟨V2,hV2,H,hr⟩:=Rel.aJ H (fun _=>rfl) ag
  by_cases hz:A.length=size
  ·refine wk ?_
   refine (TO H.data hr aa).use ?_
   rintro v w ⟨r2,rfl,K⟩
   (replace H:=Rel.call H K)
   simp only [List.append_nil] at H
   obtain ⟨V3,ar,H,hr2⟩:=Rel.aJ H (fun _=>rfl) ag
   refine wk ?_
   refine (wY H.data hr2 ((hs.up hV2).up ar)).use ?_
   rintro v w ⟨rfl,K⟩
   (replace H:=H.aq K)
   refine wk ?_
   have hu:jI l size=if fc A=l then some A else none:=by
    unfold jI
    rw [hd]
    simp only [hz,true_and]
   rw [hu]
   by_cases hp:fc A=l
   ·rw [if_pos hp,decide_eq_true hp]
    exact ⟨V3,r,hV2.trans ar,H.sx,rfl,hr.up ar⟩
   ·rw [if_neg hp,decide_eq_false hp]
    exact ⟨V3,r,hV2.trans ar,H.sx,rfl⟩
  ·have hu:jI l size=none:=by
    unfold jI
    rw [hd]
    simp only
    rw [if_neg (fun h=>hz h.1)]
   rw [hu]
   refine wk ?_
   exact ⟨V2,r,hV2,H.sx,rfl⟩
 | cons c R =>
  rw [List.length_cons] at dI hX
  obtain ⟨p0,c0⟩:=hq.aP (g:=bv) (fun _=>rfl) (show 0<(c::R).length by simp)
  rw [List.getElem_cons_zero] at c0
  rw [AO] at hd
  have Hv:=c.toNat_lt
  have hf:=hq.rest (k:=1) ae
  rw [List.drop_one,List.tail_cons] at hf
  have cS:=hf.len
  refine wk ?_
  by_cases e8:129≤c.toNat∧0<R.length
  ·rw [if_pos e8] at hd
   cases R with
   | nil=>simp at e8
   | cons y R =>
    rw [List.length_cons] at hX dI cS
    have ho:=hf.one
    have xN:=hf.rest (k:=1) ae
    rw [List.drop_one,List.tail_cons] at xN
    rw [List.headD_cons,List.drop_one,List.tail_cons] at hd
    refine wk ?_
    rw [show ((c.toNat:Nat):Int) - 126=((c.toNat - 126:Nat):Int) by omega]
    refine (UY (n:=c.toNat - 126) H.data ho aa aa).use ?_
    rintro v w ⟨r2,rfl,K⟩
    (replace H:=Rel.call H K)
    simp only [List.cons_append,List.nil_append] at H
    refine wk ?_
    refine Rel.cQ H (i:=0) rfl (by simp only [List.length_replicate];omega) ?_
    clear H
    intro r1 w H
    simp only [List.set_cons_zero] at H
    refine wk ?_
    exact ⟨sB,(_,R,r1,A++List.replicate (c.toNat - 126) y),sB,⟨xN,by rw [hd,Option.map_map];congr 1;funext z;simp,by dsimp only;omega,by simp only [List.length_append,List.length_replicate];omega,H⟩,by simp only [List.length_cons];omega⟩
  ·rw [if_neg e8] at hd
   by_cases HZ:c.toNat<128∧c.toNat<R.length
   ·rw [if_pos HZ] at hd
    have hh:=hf.head (k:=c.toNat+1) aa
    have xN:=hf.rest (k:=c.toNat+1) aa
    refine wk ?_
    refine Rel.gn H (i:=0) rfl hh (by simp only [List.length_take];omega) ?_
    clear H
    intro r1 w H
    simp only [List.set_cons_zero] at H
    refine wk ?_
    exact ⟨sB,(_,R.drop (c.toNat+1),r1,A++R.take (c.toNat+1)),sB,⟨xN,by rw [hd,Option.map_map];congr 1;funext z;simp,by simp only [List.length_drop];omega,by simp only [List.length_append,List.length_take];omega,H⟩,by simp only [List.length_cons,List.length_drop];omega⟩
   ·rw [if_neg HZ] at hd
    have hu:jI l size=none:=by
     unfold jI
     rw [hd]
     rfl
    rw [hu]
    by_cases h1:129≤c.toNat
    ·refine wk ?_
     exact ⟨V,⟨none,0,0⟩,Sub.refl _,H.sx,rfl⟩
    by_cases h2:c.toNat<128
    all_goals
     refine wk ?_
     exact ⟨V,⟨none,0,0⟩,Sub.refl _,H.sx,rfl⟩
end
theorem Gq {P:Program} {e:TypeId} {d:TD} (hd:bH P e d) (hu:d.under=.int .u8) {a b:List UInt8} {w:World} {m:Nat}:∀is:List Nat,(∀i∈is,i<a.length∧i<b.length) →
  (Op.eqItems (m+1) e 1 ⟨a.map bv⟩ ⟨b.map bv⟩ is).run P w=.ok (decide (∀i∈is,a[i]?=b[i]?)) w
 | [],_=>by simp [Op.eqItems]
 | i::is,h=>by
  obtain ⟨h1,h2⟩:=h i ae
  have ih:=Gq (w:=w) (m:=m) hd hu is fun j hj=>h j (by simp [hj])
  have bg:=hd.int hu w
  have ha:kU d.under=false:=by rw [hu];rfl
  have p1:=zd hd ha (l:=a.map bv) (off:=i*1) (v:=bv a[i]) (by simp [h1]) w
  have p2:=zd hd ha (l:=b.map bv) (off:=i*1) (v:=bv b[i]) (by simp [h2]) w
  have p3:(Op.equalIn (m+1) e (bv a[i]) (bv b[i])).run P w=.ok (decide (a[i]=b[i])) w:=by
   simp only [Op.equalIn,Sem.run_bind,bg,Result.andThen_ok,if_true,Sem.run_pure]
   by_cases hab:a[i]=b[i]
   ·simp [hab]
   ·have:¬((a[i].toNat:Int)=(b[i].toNat:Int)):=fun hc=>hab (UInt8.toNat_inj.1 aa)
    simp [hab,this]
  simp only [Op.eqItems,Sem.run_bind,p1,p2,p3,Result.andThen_ok]
  by_cases hab:a[i]=b[i]
  ·simp only [hab,decide_true,Bool.not_true,Bool.false_eq_true,if_false]
   rw [ih]
   congr 1
   refine decide_eq_decide.2 ?_
   constructor
   ·intro hh j hj
    rcases List.mem_cons.1 hj with rfl|hj
    ·simp [h1,h2,hab]
    ·exact hh j hj
   ·intro hh j hj
    exact hh j (by simp [hj])
  ·simp only [hab,decide_false,Bool.not_false,if_true,Sem.run_pure]
   congr 1
   refine (decide_eq_false fun hh=>hab ?_).symm
   have:=hh i ae
   simpa [h1,h2] using this
theorem Vp {P:Program} {T:List TD} (hT:aQ P T) {t e:TypeId} {n:Nat} {d de:TD} (hd:T[t]?=some d) (hu:d.under=.array n e) (hde:T[e]?=some de) (hue:de.under=.int .u8) (hsz:de.size=1) {a b:List UInt8} (ha:a.length=n) (hb:b.length=n) (w:World) (m:Nat) :
  (Op.equalIn (m+2) t (.agg ⟨a.map bv⟩) (.agg ⟨b.map bv⟩)).run P w=.ok (decide (a=b)) w:=by
 have ik:=hT t d hd
 have rH:=hT e de hde
 obtain ⟨d0,q1,q2⟩:=ik.under
 have Io:P.underlying t=some (.array n e):=by
  rw [hu] at q2
  cases d0<;>simp_all [bO]<;>(split at q2<;>simp_all)
 obtain ⟨i,hi,fJ,_⟩:=rH.info
 have hc:P.cellsOf e=1:=by simp [Program.cellsOf,hi,fJ,hsz]
 rw [run_equalIn_array w (m+1) _ _ Io hi,hc,Gq rH hue _ (fun i hi=>by simp at hi;omega)]
 congr 1
 refine decide_eq_decide.2 ⟨fun h=>List.ext_getElem? fun i=>?_,fun h=>by simp [h]⟩
 by_cases hin:i<n
 ·exact h i (by simpa using hin)
 ·rw [List.getElem?_eq_none aa,List.getElem?_eq_none aa]
theorem VE {P:Program} {T:List TD} (hT:aQ P T) {t e:TypeId} {n:Nat} {d de:TD} (hg:P.eqGuardType P.depth t=false) (hd:T[t]?=some d) (hu:d.under=.array n e) (hde:T[e]?=some de) (hue:de.under=.int .u8) (hsz:de.size=1) {a b:List UInt8} (ha:a.length=n) (hb:b.length=n) {x y:Operand} {w:World} {k:Value→World→Prop}
  (hk:k (.bool (decide (a=b))) w):aH P (do eqGuard .eql t x y (.agg ⟨a.map bv⟩) (.agg ⟨b.map bv⟩);binOp .eql t (.agg ⟨a.map bv⟩) (.agg ⟨b.map bv⟩)) w k:=by
 refine .of (v:=.bool (decide (a=b))) (w':=w) ?_ hk
 rw [Sem.run_bind,run_eqGuard_agg (P:=P) w .eql t x y _ _ hg]
 simp only [Result.andThen_ok]
 rw [run_eql_struct,Vp hT hd hu hde hue hsz ha hb w 9998]
 rfl
abbrev wL (c:aW):List Value:=[bv c.1,bv c.2.1,bv c.2.2]
abbrev q6 (c:aW):Value:=.agg #[bv c.1,bv c.2.1,bv c.2.2]
abbrev jL:=aw wL
theorem jL.lv {V:World} {s:Sl} {p:List aW} (h:jL V s p) {i:Nat} (hi:i<p.length):Plain s.a∧V.cell? ⟨aN s.a,aI s.a+i*3,none⟩=some (bv p[i].1)∧V.cell? ⟨aN s.a,aI s.a+i*3+1,none⟩=some (bv p[i].2.1)∧V.cell? ⟨aN s.a,aI s.a+i*3+1+1,none⟩=some (bv p[i].2.2):=by
 obtain ⟨p,c⟩:=aw.get h (n:=3) (fun _=>rfl) ag hi
 exact ⟨p,c 0 _ rfl,c 1 _ rfl,c 2 _ rfl⟩
theorem VF {x y:Operand} {a b:aW} {w:World} {k:Value→World→Prop} (hk:k (.bool (decide (a=b))) w):aH Tryz.prog (do eqGuard .eql 327 x y (q6 a) (q6 b);binOp .eql 327 (q6 a) (q6 b)) w k:=by
 have e:decide (a=b)=decide (nI a=nI b):=decide_eq_decide.2 ⟨fun h=>by rw [h],fun h=>by
  simp only [nI,List.cons.injEq,and_true] at h
  exact Prod.ext h.1 (Prod.ext h.2.1 h.2.2)⟩
 rw [e] at hk
 exact VE (n:=3) (e:=5) (a:=nI a) (b:=nI b) ad ab rfl rfl rfl rfl rfl rfl rfl hk
section
variable {V W:World}
theorem RR (hV:Sub V W) {s:Sl} {p:List aW} (hs:jL V s p) (hp:p.length≤100000) (c:aW):aj Tryz.prog 278 [s.v,q6 c].toArray W fun v w'=>v=iv (if c∈p then (lS p c:Int) else -1)∧Rel W V [] V w':=by
 have H:=Rel.start hV
 have hlen:=hs.len
 refine eV Tryz.func278 19 [0,1,3,4,5,7,8,9,16] ?_
 refine wk ?_
 refine H.nA ?_;clear H;intro w b3 H
 refine wk ?_
 refine aK (S:=Nat) ad [0,1,3,7] (fun k=>[(8,iv k)]) (fun k w'=>k≤p.length∧c∉p.take k∧Rel W V [.al b3 (wL c) 327] V w') (fun k _=>p.length - k) 0 ?_
 conv=>whnf
 refine ⟨sB,⟨aa,ae,H⟩,?_⟩
 clear H
 rintro k w ⟨hk,hn,H⟩
 dsimp only at hk hn H ⊢
 by_cases hlt:k<p.length
 rotate_left
 ·rw [List.take_of_length_le aa] at hn
  rw [if_neg hn]
  refine wk ?_
  exact H.sx
 obtain ⟨hpl,g1,g2,g3⟩:=hs.lv hlt
 refine wk ?_
 refine dV 4 [] [0,1,2,3,4,5] H ?_;clear H;intro w H
 refine wk ?_
 refine VF ?_
 refine wk ?_
 by_cases he:c=p[k]
 ·have hm:c∈p:=he ▸ List.getElem_mem hlt
  rw [if_pos hm,decide_eq_true he]
  have hpos:lS p c=k:=by
   have hd:=List.take_append_drop k p
   rw [List.drop_eq_getElem_cons hlt,←he] at hd
   have:∀(l:List aW),c∉l→∀r,lS (l++c::r) c=l.length:=by
    intro l
    induction l with
    | nil=>intro _ r;simp [lS]
    | cons x l ih =>
     intro h r
     simp only [List.mem_cons,not_or] at h
     show (if x=c then 0 else lS (l++c::r) c+1)=_
     rw [if_neg (fun e=>h.1 e.symm),ih h.2]
     rfl
   have h2:=this _ hn (p.drop (k+1))
   rw [hd,List.length_take] at h2
   omega
  refine wk ?_
  exact ⟨by rw [hpos],H.sx⟩
 ·rw [decide_eq_false he]
  refine wk ?_
  refine ⟨sB,k+1,sB,⟨aa,?_,H.sx⟩,aa⟩
  rw [List.take_succ_eq_append_getElem hlt]
  simp only [List.mem_append,List.mem_singleton,not_or]
  exact ⟨hn,he⟩
theorem NY (hV:Sub V W) {s:Sl} {p:List aW} (hs:jL V s p) (hp:p.length≤100000) (c:aW):aj Tryz.prog 271 [s.v,q6 c].toArray W fun v w'=>v=.bool (decide (c∈p))∧Rel W V [] V w':=by
 have H:=Rel.start hV
 refine eV Tryz.func271 9 [0,1,3,4] ?_
 refine wk ?_
 refine H.nA ?_;clear H;intro w b3 H
 refine wk ?_
 refine (RR H.data hs hp c).use ?_
 rintro v w ⟨rfl,K⟩
 (replace H:=H.aq K)
 refine wk ?_
 refine ⟨congrArg Value.bool (decide_eq_decide.2 ?_),H.sx⟩
 by_cases hm:c∈p
 ·rw [if_pos hm]
  exact ⟨fun _=>hm,fun _=>by omega⟩
 ·rw [if_neg hm]
  exact ⟨fun h=>by omega,fun h=>absurd h hm⟩
structure Mm (W V:World) (o:Option (List aW×List UInt8)) (v:Value) (w':World):Prop where
 ex:∃(V':World) (r t:Sl),Sub V V'∧Rel W V [] V' w'∧(match o with
  | none=>v=.tuple #[.slice none 0 0,.slice none 0 0,.bool false]
  | some (p,l)=>v=.tuple #[r.v,t.v,.bool true]∧jL V' r p∧ao V' t l)
theorem VD {P:Program} {w:World} {arr e:TypeId} {n:Nat} {a:Option Addr} {len cap:Nat} (h:P.underlying arr=some (.array n e)) (hn:n≤len) {k:Value→World→Prop} (hk:k (.pointer a) w):aH P (Instr.arrayAt arr (.slice a len cap)) w k :=
 .of (by simp [Instr.arrayAt,run_underlying h,Nat.not_lt.2 hn]) hk
theorem NR {l:List UInt8}:∀ {n i:Nat},3*n≤l.length→i<n→(ib (l.take (3*n)))[i]?=some (dX l i):=by
 intro n i hn hi
 rw [Fi (l.take (3*n)) n (by rw [List.length_take];omega),List.getElem?_map,List.getElem?_range hi]
 simp only [Option.map_some,dX,z8]
 rw [List.getElem?_take_of_lt aa,List.getElem?_take_of_lt aa,List.getElem?_take_of_lt aa]
theorem Fk {l:List UInt8} {n k:Nat} (hn:3*n≤l.length) (hk:k≤n):(ib (l.take (3*n))).take k=(List.range k).map (dX l):=by
 refine List.ext_getElem? fun i=>?_
 by_cases hi:i<k
 ·rw [List.getElem?_take_of_lt hi,NR hn aa,List.getElem?_map,List.getElem?_range hi]
  rfl
 ·rw [List.getElem?_eq_none (by simp;omega),List.getElem?_eq_none (by simp;omega)]
theorem vX {q:Sl} {l:List UInt8} (h:ao V q l) {i:Nat} (hi:i<l.length):Plain q.a∧V.cell? ⟨aN q.a,aI q.a+i,none⟩=some (bv (z8 l i)):=by
 obtain ⟨p,c⟩:=h.aP (g:=bv) (fun _=>rfl) hi
 refine ⟨p,?_⟩
 rw [c]
 simp [z8,List.getElem?_eq_getElem hi]
theorem Wq {a:Option Addr} (h:Plain a) {l m n:Nat} (hm:m≠l):aD a l m n=some ⟨aN a,aI a+l*n,none⟩:=by
 have:=qy h (l:=l) (m:=m) (size:=n)
 rw [Plain,qw,qx h hm] at this
 exact this
theorem UD (hV:Sub V W) {s:Sl} {b:List UInt8} (hs:ao V s b) (hl:b.length≤1000000000) {f:Nat} (hf:f<32):aj Tryz.prog 210 [s.v,iv ((f / 16:Nat):Int)].toArray W (Mm W V (gT f b)):=by
 have H:=Rel.start hV
 have hlen:=hs.len
 have nS:=hs.cap
 obtain ⟨most,H6⟩:∃m,m=kf f:=⟨_,rfl⟩
 have Y3:=yq f
 refine nE ad Tryz.func210 rfl ab 68 rfl ae [0,1,4,5,6,7,8,9,10,11,13,30,41,42,43,44,57] ?_
 refine aB.cc ad ?_
 refine wk ?_
 refine aB.cc ad ?_
 refine wk ?_
 refine aB.lZ ad (fun _:Unit=>[(0,s.v),(7,iv most)]) (fun _ w'=>w'=W) ?_ ?_
 ·by_cases hd:f / 16=1
  ·obtain rfl:most=16:=by rw [H6];unfold kf;rw [if_pos hd]
   refine wk ?_
   exact ⟨(),sB,rfl⟩
  ·obtain rfl:most=2:=by rw [H6];unfold kf;rw [if_neg hd]
   refine wk ?_
   exact ⟨(),sB,rfl⟩
 rintro _ w rfl
 refine aB.go ad ?_
 cases b with
 | nil =>
  rw [List.length_nil] at hlen
  refine wk ?_
  exact ⟨V,⟨none,0,0⟩,⟨none,0,0⟩,Sub.refl _,H.sx,rfl⟩
 | cons c l =>
  obtain ⟨p0,c0⟩:=hs.aP (g:=bv) (fun _=>rfl) (show 0<(c::l).length by simp)
  rw [List.getElem_cons_zero] at c0
  rw [List.length_cons] at hlen hl
  have Hv:=c.toNat_lt
  by_cases h1:c.toNat=0
  ·have e:gT f (c::l)=none:=by unfold gT;simp only;rw [if_neg (fun h=>by have:=h.1;omega)]
   rw [e]
   refine wk ?_
   exact ⟨V,⟨none,0,0⟩,⟨none,0,0⟩,Sub.refl _,H.sx,rfl⟩
  by_cases h2:most<c.toNat
  ·have e:gT f (c::l)=none:=by unfold gT;simp only;rw [if_neg (fun h=>by have:=h.2.1;omega)]
   rw [e]
   refine wk ?_
   exact ⟨V,⟨none,0,0⟩,⟨none,0,0⟩,Sub.refl _,H.sx,rfl⟩
  have ht:=hs.rest (k:=1) ae
  rw [List.drop_one,List.tail_cons] at ht
  have htl:=ht.len
  obtain ⟨t,Ck⟩:∃t:Sl,t=⟨aD s.a 1 s.cap 1,s.len - 1,s.cap - 1⟩:=⟨_,rfl⟩
  rw [←Ck] at ht htl
  have Cj:=ht.cap
  by_cases h3:3*c.toNat≤l.length
  rotate_left
  ·have e:gT f (c::l)=none:=by unfold gT;simp only;rw [if_neg (fun h=>h3 h.2.2.1)]
   rw [e]
   refine wk ?_
   exact ⟨V,⟨none,0,0⟩,⟨none,0,0⟩,Sub.refl _,H.sx,rfl⟩
  have Bj:1≤c.toNat∧c.toNat≤kf f:=aa
  refine wk ?_
  rw [show Value.slice (aD s.a (Int.toNat 1) s.cap 1) (s.len - Int.toNat 1) (s.cap - Int.toNat 1)=t.v by rw [Ck];rfl]
  clear Ck
  obtain ⟨n,hn⟩:∃n,n=c.toNat:=⟨_,rfl⟩
  rw [←hn] at Bj h3 ⊢
  have H:=H.bw 327 3
  refine aK (S:=Nat×Sl) ad [0,1,7,8,13,30,41,42] (fun k=>[(9,k.2.v),(43,iv k.1)]) (fun k w'=>k.1≤n∧((List.range k.1).map (dX l)).Nodup∧Rel w V [.row k.2 327 3 (((List.range k.1).map (dX l)).flatMap wL)] V w') (fun k _=>n - k.1) (0,⟨none,0,0⟩) ?_
  conv=>whnf
  refine ⟨sB,⟨aa,ae,H⟩,?_⟩
  clear H
  rintro ⟨k,r⟩ w' ⟨hk,ed,H⟩
  dsimp only at hk ed H ⊢
  have hrl:r.len=((List.range k).map (dX l)).length:=H.dz (i:=0) rfl (fun _=>rfl) ag
  rw [List.length_map,List.length_range] at hrl
  by_cases hlt:k<n
  ·obtain ⟨q0,d0⟩:=vX ht (i:=3*k) aa
   obtain ⟨_,d1⟩:=vX ht (i:=3*k+1) aa
   obtain ⟨_,d2⟩:=vX ht (i:=3*k+2) aa
   refine wk ?_
   refine VD (n:=3) (e:=5) ab aa ?_
   rw [Wq q0 aa,show (3*(k:Int)).toNat*1=3*k by omega]
   refine wk ?_
   refine H.nA ?_;clear H;intro w Ae H
   refine H.wg ?_;clear H;intro w H
   refine (NY (Sub.refl _) (H.dO (i:=1) rfl (fun _=>rfl) ag) (by simp;omega) (dX l k)).use ?_
   rintro v w2 ⟨rfl,K⟩
   replace H:=Rel.ext H K.base
   by_cases hc:dX l k∈(List.range k).map (dX l)
   ·have e:gT f (c::l)=none:=by
     unfold gT
     simp only
     rw [if_neg]
     rintro ⟨_,_,_,h4⟩
     rw [←hn] at h4
     have h5:=Fk h3 (k:=k+1) aa
     have h6:=(h4.sublist (List.take_sublist (k+1) _))
     rw [h5,List.range_succ,List.map_append,List.map_singleton] at h6
     exact (List.nodup_append.1 h6).2.2 _ hc _ (List.mem_singleton.2 rfl) rfl
    rw [e,decide_eq_true hc]
    refine wk ?_
    exact ⟨V,⟨none,0,0⟩,⟨none,0,0⟩,Sub.refl _,H.sx,rfl⟩
   ·rw [decide_eq_false hc]
    refine H.wg ?_;clear H;intro _ w H
    refine Rel.cy (f:=wL) (l:=(List.range k).map (dX l)) (x:=dX l k) ad rfl rfl rfl rfl rfl ag (fun _=>rfl) (by simp [Value.oneCell',bv]) H (by rw [List.length_map,List.length_range];show (k+1)*3≤_;omega) (by rw [List.length_map,List.length_range];omega) ?_
    clear H
    intro r1 w H
    have QW:((List.range (k+1)).map (dX l)).Nodup:=by
     rw [List.range_succ,List.map_append,List.map_singleton,List.nodup_append]
     exact ⟨ed,ae,fun a ha b hb e=>hc (by rw [List.mem_singleton] at hb;rw [←hb,←e];exact ha)⟩
    refine wk ?_
    rw [show (List.range k).map (dX l)++[dX l k]=(List.range (k+1)).map (dX l) by rw [List.range_succ,List.map_append];rfl] at H
    exact ⟨sB,(k+1,r1),sB,⟨by dsimp only;omega,QW,H.sx⟩,by dsimp only;omega⟩
  ·obtain rfl:k=n:=aa
   have h4:=Fk h3 (k:=k) (Nat.le_refl _)
   have h5:(ib (l.take (3*k))).length=k:=(Aw k (by rw [List.length_take];omega)).2
   rw [List.take_of_length_le aa] at h4
   have e:gT f (c::l)=some ((List.range k).map (dX l),l.drop (3*k)):=by
    unfold gT
    simp only
    rw [←hn,if_pos ⟨Bj.1,Bj.2,h3,by rw [h4];exact ed⟩,h4]
   rw [e]
   obtain ⟨V2,hV2,H,hr⟩:=Rel.aJ H (fun _=>rfl) ag
   have kR:=ht.rest (k:=3*k) aa
   refine wk ?_
   refine dV 19 [] [0,1,2,3,4,5,6,7] H ?_;clear H;intro w H
   refine wk ?_
   exact ⟨V2,r,_,hV2,H.sx,rfl,hr,kR.up hV2⟩
end
end Go.Proofs.YtmoiobegbpkkbaaGreatDoor
