import Derived.Test.YtmoiobegbpkkbaaGreatDoorKAG
import Derived.Lib.ItoaMem
import Derived.Lib.ItoaLen
import Derived.Lib.AtoiAllCases
namespace Go.Proofs.YtmoiobegbpkkbaaGreatDoor
open Go Go.RowKit
set_option maxRecDepth 100000
set_option maxHeartbeats 8000000
abbrev nz (Z:List Nat):List Int:=Z.map fun (n:Nat)=>(n:Int)
abbrev kB:=List (List (List UInt8))
abbrev o8 (x:List UInt8):ah:=.mk 2 0 x [] []
abbrev oB (r:List (List UInt8)):ah:=.mk 3 0 [] [] (r.map o8)
abbrev lh (T:kB):ah:=.mk 3 0 [] [] (T.map oB)
abbrev gi (R:List (List aO)):kB:=R.map fun r=>r.map Prod.fst
def iZ (fl:Nat) (Z:List Nat):List UInt8:=if fl=0∧Z=[] then [] else ax fl++bj ax (nz Z)
def fB (n:Nat) (k o:Bool):Nat:=n+(if k=true then 3 else 0)+(if o=true then 6 else 0)
def lf (k:Bool) (R:List (List aO)) (o:Bool):Bool:=decide (0<R.length)&&decide (2≤(R.headD []).length)&&(!k||decide (1<R.length)||!o)
def dk (i:Nat):Bool:=decide (i%2=1)
def fh (i:Nat) (l:List UInt8):Option (List (List aO)×Bool):=match eh (aE (i / 2)) (aZ (dk i)) l with
 | none=>none
 | some (R,o)=>if lf (dk i) R o=true then some (R,o) else none
def oN (l:List UInt8):Nat→Option (Nat×List (List aO)×Bool)
 | 0=>none
 | n+1=>match fh (5 - n) l with
  | some x=>some (5 - n,x)
  | none=>oN l n
def oM (l:List UInt8):Option (Nat×List (List aO)×Bool):=oN l 6
def vG (i:Nat) (R:List (List aO)) (o:Bool):Option (ah×List UInt8):=if (bC (lh (gi R))).1=0 then some (lh (gi R),iZ (fB (i / 2) (dk i) o) (qn (aE (i / 2)) 0 R.flatten)) else none
def eD (l:List UInt8):Option (ah×List UInt8):=match oM l with
 | none=>none
 | some (i,R,o)=>vG i R o
def cellOf (c:ah):Option (List UInt8):=if c.kind=2 then some c.bytes else none
def DC (r:ah):Option (List (List UInt8)):=if r.kind=3∧r.parts≠[] then allM cellOf r.parts else none
def oP (v:ah):Option kB:=if v.kind=3∧v.parts≠[] then allM DC v.parts else none
def u7 (z:List Int):Prop:=(∀n∈z,0≤n∧n≤1000)∧z.Pairwise (· < ·)
instance (z:List Int):Decidable (u7 z):=by unfold u7;infer_instance
def D1 (b:List UInt8):Option (Int×List Int):=match cC b 0 with
 | .bad _ _=>none
 | .ok c p=>match dK b (cC b) 1000 p with
  | .bad _ _=>none
  | .ok z q=>if q=b.length then some (c,z) else none
def vH (b:List UInt8):Option (Nat×List Nat):=if b=[] then some (0,[]) else match D1 b with
 | none=>none
 | some (c,z)=>if (0≤c∧c<12)∧¬(c=0∧z=[])∧u7 z then some (c.toNat,z.map Int.toNat) else none
def oO (fl:Nat) (Z:List Nat) (T:kB):List UInt8:=eY (aE (fl%3)) (aZ (decide (fl / 3%2=1))) (decide (6≤fl)) (uU (aE (fl%3)) Z 0 T)
noncomputable def sI (v:ah) (b:List UInt8):Option (List UInt8):=match oP v with
 | none=>none
 | some T=>match vH b with
  | none=>none
  | some (fl,Z)=>if (oO fl Z T).length≤1000∧eD (oO fl Z T)=some (v,b) then some (oO fl Z T) else none
abbrev SF:List UInt8:=[115,101,112,97,114,97,116,111,114]
abbrev Sy:List UInt8:=[99,97,114,114,105,97,103,101,32,114,101,116,117,114,110,32,97,110,100,32,108,105,110,101,32,102,101,101,100]
abbrev SB:List UInt8:=[111,112,101,110,32,101,110,100]
abbrev SC:List UInt8:=[113,117,111,116,101,100,32,99,101,108,108,115]
def uR (fl n:Nat):List jN:=(if fl%3≠0 then [(SF,((fl%3:Nat):Int))] else [])++(if fl / 3%2=1 then [(Sy,1)] else [])++(if 6≤fl then [(SB,1)] else [])++(if 0<n then [(SC,(n:Int))] else [])
def K2 (b:List UInt8):Option (List jN):=match vH b with
 | none=>none
 | some (fl,Z)=>some (uR fl Z.length)
theorem Tv (Z:List Nat):(nz Z).map Int.toNat=Z:=by
 unfold nz
 rw [List.map_map]
 conv=>rhs;rw [←List.map_id Z]
 exact List.map_congr_left fun x _=>by simp
theorem Ww {fl:Nat} {Z:List Nat} (hf:fl<1000) (hl:Z.length≤1000) (hz:∀n∈Z,n≤1000):D1 (ax fl++bj ax (nz Z))=some ((fl:Int),nz Z):=by
 obtain ⟨b,hb⟩:∃b,b=ax (fl:Int)++bj ax (nz Z):=⟨_,rfl⟩
 rw [←hb]
 have e1:b=[]++(ax (fl:Int)++bj ax (nz Z)):=by rw [hb];rfl
 have n1:=gS (n:=(fl:Int)) aa aa [] (bj ax (nz Z))
 rw [←e1] at n1
 have e2:b=ax (fl:Int)++(ax ((nz Z).length:Int)++((nz Z).flatMap ax++[])):=by rw [hb,bj,List.append_nil]
 have cq:(nz Z).length=Z.length:=ae
 have n2:=gS (n:=((nz Z).length:Int)) aa aa (ax (fl:Int)) ((nz Z).flatMap ax++[])
 rw [←e2] at n2
 have hbl:=congrArg List.length e2
 simp only [List.length_append,List.length_nil] at hbl
 have n3:=rT (f:=ax) (b:=b) (one:=cC b) (nz Z) ((ax (fl:Int)).length+(ax ((nz Z).length:Int)).length) aa (fun x hx q r hq hd=>by
  obtain ⟨n,hn,rfl⟩:=List.mem_map.1 hx
  have:=hz n hn
  have e:b=b.take q++(ax (n:Int)++r):=by rw [←hd,List.take_append_drop]
  have dI:(b.take q).length=q:=by simp;omega
  have:=gS (n:=(n:Int)) aa aa (b.take q) r
  rwa [dI,←e] at this) [] (by
   rw [←List.drop_drop]
   conv=>lhs;rw [e2]
   rw [List.drop_left,List.drop_left])
 unfold D1
 simp only [List.length_nil,Nat.zero_add] at n1
 rw [n1]
 simp only
 unfold dK
 rw [n2]
 simp only
 rw [if_neg aa,Int.toNat_natCast,n3]
 simp only
 rw [if_pos aa]
theorem K3 {fl:Nat} {Z:List Nat} (hf:fl<12) (hl:Z.length≤1000) (hz:u7 (nz Z)):vH (iZ fl Z)=some (fl,Z):=by
 unfold iZ
 split
 ·rename_i h
  obtain ⟨rfl,rfl⟩:=h
  rfl
 ·rename_i hne
  unfold vH
  rw [if_neg,Ww aa hl fun n hn=>by have:=hz.1 (n:Int) (List.mem_map.2 ⟨n,hn,rfl⟩);omega]
  ·simp only
   rw [if_pos,Int.toNat_natCast,Tv]
   refine ⟨aa,fun q=>hne ⟨aa,?_⟩,hz⟩
   have:=q.2
   simpa [nz] using this
  ·intro h
   have:=congrArg List.length h
   have:=kh (zz (fl:Int))
   simp only [List.length_append,ax,List.length_nil] at *
   omega
theorem Wy {fl:Nat} {Z:List Nat}:iZ fl Z=[]↔fl=0∧Z=[]:=by
 unfold iZ
 constructor
 ·intro h
  split at h
  ·assumption
  ·have:=congrArg List.length h
   have:=kh (zz (fl:Int))
   simp only [List.length_append,ax,List.length_nil] at *
   omega
 ·intro h
  rw [if_pos h]
theorem Su {fl n:Nat} (hf:fl<12):uR fl n=[]↔fl=0∧n=0:=by
 unfold uR
 by_cases h1:fl%3=0
 ·by_cases h2:fl / 3%2=1
  ·simp [h1,h2];omega
  ·by_cases h3:6≤fl
   ·simp [h3];omega
   ·by_cases h4:0<n
    ·simp [h4];omega
    ·simp [h1,h2,h3,h4];omega
 ·simp [h1];omega
theorem St (fl n:Nat):(uR fl n).length≤4:=by
 unfold uR
 simp only [List.length_append]
 split<;>split<;>split<;>split<;>simp
theorem JM {Z:List Nat} (hl:Z.length≤1000) (hz:∀n∈Z,n≤1000):(bj ax (nz Z)).length≤10010:=by
 have:=ov (f:=ax) (m:=10) (l:=nz Z) (by simp;omega) fun x hx=>by
  obtain ⟨n,hn,rfl⟩:=List.mem_map.1 hx
  have:=hz n hn
  exact cD aa aa
 simp only [List.length_map] at this
 omega
theorem Wx {fl:Nat} {Z:List Nat} (hf:fl<1000) (hl:Z.length≤1000) (hz:∀n∈Z,n≤1000):(iZ fl Z).length≤10020:=by
 have h1:=JM hl hz
 have h2:=cD (n:=(fl:Int)) aa aa
 unfold iZ
 split
 ·simp
 ·rw [List.length_append];omega
theorem K1 {l:List UInt8} {i:Nat} {R:List (List aO)} {o:Bool}:∀ {n:Nat},oN l n=some (i,R,o)→i<6∧fh i l=some (R,o)
 | 0,h=>by cases h
 | n+1,h=>by
  unfold oN at h
  split at h
  ·rename_i x hx
   cases h
   exact ⟨aa,hx⟩
  ·exact K1 h
theorem WB {l:List UInt8} {i:Nat} {R:List (List aO)} {o:Bool} (h:fh i l=some (R,o)):eh (aE (i / 2)) (aZ (dk i)) l=some (R,o)∧lf (dk i) R o=true:=by
 unfold fh at h
 split at h
 ·cases h
 ·rename_i R' o' hr
  split at h
  ·rename_i hs
   cases h
   exact ⟨hr,hs⟩
  ·cases h
theorem zt {n:Nat} (h:n<3) (k o:Bool):fB n k o<12∧fB n k o%3=n∧decide (fB n k o / 3%2=1)=k∧decide (6≤fB n k o)=o:=by
 unfold fB
 cases k<;>cases o<;>simp<;>omega
theorem Js (c:aO):c.1.length≤(lR c).length:=by
 have he:∀x:List UInt8,x.length≤(fH x).length:=by
  intro x
  induction x with
  | nil=>simp [fH]
  | cons d x ih=>unfold fH;split<;>simp<;>omega
 unfold lR
 split
 ·have:=he c.1
  simp only [List.length_cons,List.length_append]
  omega
 ·exact Nat.le_refl _
theorem C0 (s:UInt8):∀(r:List aO),r.length≤(fO s r).length+1∧∀c∈r,c.1.length≤(fO s r).length
 | []=>by simp
 | [c]=>⟨ae,fun d hd=>by rw [List.mem_singleton.1 hd];exact Js c⟩
 | c::d::r=>by
  obtain ⟨h1,h2⟩:=C0 s (d::r)
  have h3:=Js c
  refine ⟨?_,fun x hx=>?_⟩
  ·simp only [fO,List.length_append,List.length_cons] at h1 ⊢
   omega
  ·have e:(fO s (c::d::r)).length=(lR c).length+((fO s (d::r)).length+1):=by
    simp [fO]
   rw [e]
   rcases List.mem_cons.1 hx with rfl|hx
   ·omega
   ·have:=h2 x hx
    omega
theorem rz {s:UInt8} {e:List UInt8} (he:e≠[]) (o:Bool):∀(R:List (List aO)),R.flatten.length≤(eY s e o R).length+1∧(∀r∈R,∀c∈r,c.1.length≤(eY s e o R).length)∧R.length≤(eY s e o R).length+1
 | []=>by simp
 | [r]=>by
  obtain ⟨h1,h2⟩:=C0 s r
  have e1:(eY s e o [r]).length=(fO s r).length+(if o=true then [] else e).length:=by simp [eY]
  rw [e1]
  refine ⟨by simp;omega,fun q hq c hc=>?_,ae⟩
  rw [List.mem_singleton.1 hq] at hc
  have:=h2 c hc
  omega
 | r::q::R=>by
  obtain ⟨h1,h2⟩:=C0 s r
  obtain ⟨h3,h4,h5⟩:=rz (s:=s) he o (q::R)
  have hel:=List.length_pos_iff.2 he
  have e1:(eY s e o (r::q::R)).length=(fO s r).length+(e.length+(eY s e o (q::R)).length):=by simp [eY]
  rw [e1]
  refine ⟨?_,fun a ha c hc=>?_,?_⟩
  ·rw [List.flatten_cons,List.length_append]
   omega
  ·rcases List.mem_cons.1 ha with rfl|ha
   ·have:=h2 c hc
    omega
   ·have:=h4 a ha c hc
    omega
  ·simp only [List.length_cons] at h5 ⊢
   omega
theorem De {s:UInt8} {b:List aO}:∀ {a:List aO} {k:Nat},qn s k (a++b)=qn s k a++qn s (k+a.length) b
 | [],k=>rfl
 | c::a,k=>by
  show _++qn s (k+1) (a++b)=_
  rw [De (a:=a),qn,List.append_assoc,List.length_cons,Nat.add_assoc,Nat.add_comm 1]
theorem JR {s:UInt8} (k:Nat) (c:aO):(qn s k [c]).length≤(lR c).length:=by
 unfold qn
 split
 ·rename_i h
  have hc:c.2=true:=by
   rw [Bool.and_eq_true] at h
   exact h.1
  unfold lR
  rw [if_pos hc]
  simp [qn]
 ·simp [qn]
theorem Dg {s:UInt8}:∀(r:List aO) (k:Nat),(qn s k r).length≤(fO s r).length
 | [],_=>by simp [qn]
 | [c],k=>JR k c
 | c::d::r,k=>by
  have h1:=JR (s:=s) k c
  have h2:=Dg (s:=s) (d::r) (k+1)
  have e:qn s k (c::d::r)=qn s k [c]++qn s (k+1) (d::r):=De (a:=[c])
  rw [e]
  simp only [fO,List.length_append,List.length_cons] at h2 ⊢
  omega
theorem yT {s:UInt8} {e:List UInt8} (o:Bool):∀(R:List (List aO)) (k:Nat),(qn s k R.flatten).length≤(eY s e o R).length
 | [],_=>by simp [qn]
 | [r],k=>by
  have h1:=Dg (s:=s) r k
  have e1:(eY s e o [r]).length=(fO s r).length+(if o=true then [] else e).length:=by simp [eY]
  rw [e1]
  simp only [List.flatten_cons,List.flatten_nil,List.append_nil]
  omega
 | r::q::R,k=>by
  have h1:=Dg (s:=s) r k
  have h2:=yT (s:=s) (e:=e) o (q::R) (k+r.length)
  have e1:(eY s e o (r::q::R)).length=(fO s r).length+(e.length+(eY s e o (q::R)).length):=by simp [eY]
  rw [e1,List.flatten_cons,De,List.length_append]
  omega
theorem lg (k:Bool):aZ k≠[]:=by unfold aZ;split<;>simp
theorem CV {s:UInt8} {cs:List aO} (h:cs.length≤1001):u7 (nz (qn s 0 cs)):=by
 obtain ⟨h1,h2⟩:=JP (s:=s) (r:=cs) (k:=0)
 refine ⟨fun n hn=>?_,?_⟩
 ·obtain ⟨m,hm,rfl⟩:=List.mem_map.1 hn
  have:=h2 m hm
  omega
 ·unfold nz
  rw [List.pairwise_map]
  exact h1.imp fun h=>by omega
structure s9 (l:List UInt8) (i:Nat) (R:List (List aO)) (o:Bool):Prop where
 lt:i<6
 eq:l=eY (aE (i / 2)) (aZ (dk i)) o R
 ok:∀a∈R,a≠[]∧∀c∈a,om (aE (i / 2)) c
 su:lf (dk i) R o=true
theorem s9.ne {l:List UInt8} {i:Nat} {R:List (List aO)} {o:Bool} (h:s9 l i R o):R≠[]:=by
 rintro rfl
 have:=h.su
 simp [lf] at this
theorem KZ {l:List UInt8} {i:Nat} {R:List (List aO)} {o:Bool} (h:oM l=some (i,R,o)):s9 l i R o:=by
 obtain ⟨h1,h2⟩:=K1 h
 obtain ⟨h3,h4⟩:=WB h2
 obtain ⟨h5,h6⟩:=Dm h3
 exact ⟨h1,h5,h6,h4⟩
theorem K4 {l:List UInt8} {v:ah} {r:List UInt8} (h:eD l=some (v,r)):∃i R o,oM l=some (i,R,o)∧s9 l i R o∧(bC (lh (gi R))).1=0∧v=lh (gi R)∧r=iZ (fB (i / 2) (dk i) o) (qn (aE (i / 2)) 0 R.flatten):=by
 unfold eD at h
 split at h
 ·cases h
 ·rename_i i R o hf
  unfold vG at h
  split at h
  ·rename_i hv
   cases h
   exact ⟨i,R,o,hf,KZ hf,hv,rfl,rfl⟩
  ·cases h
theorem WD {T:kB} (h0:T≠[]) (h:∀r∈T,r≠[]):oP (lh T)=some T:=by
 unfold oP
 rw [if_pos ⟨rfl,by show T.map oB≠[];simpa using h0⟩]
 show allM DC (T.map oB)=some T
 refine qU ae fun i x y hx hy=>?_
 rw [List.getElem?_map,hy] at hx
 cases hx
 unfold DC
 rw [if_pos ⟨rfl,by show y.map o8≠[];simpa using h y (List.mem_of_getElem? hy)⟩]
 show allM cellOf (y.map o8)=some y
 refine qU ae fun j a b ha hb=>?_
 rw [List.getElem?_map,hb] at ha
 cases ha
 rfl
theorem WA {v:ah} {b:List UInt8} {T:kB} {fl:Nat} {Z:List Nat} (h1:oP v=some T) (h2:vH b=some (fl,Z)) (h4:(oO fl Z T).length≤1000) (h5:eD (oO fl Z T)=some (v,b)):sI v b=some (oO fl Z T):=by
 unfold sI
 rw [h1]
 simp only
 rw [h2]
 simp only
 rw [if_pos ⟨h4,h5⟩]
theorem WC {l:List UInt8} {i:Nat} {R:List (List aO)} {o:Bool} (F:s9 l i R o):oO (fB (i / 2) (dk i) o) (qn (aE (i / 2)) 0 R.flatten) (gi R)=l:=by
 have hi:=F.lt
 obtain ⟨_,f2,f3,f4⟩:=zt (n:=i / 2) aa (dk i) o
 unfold oO
 rw [f2,f3,f4,SS (fun r hr=>(F.ok r hr).2)]
 exact F.eq.symm
theorem WG {l:List UInt8} {v:ah} {r:List UInt8} (hl:l.length≤1000) (h:eD l=some (v,r)):sI v r=some l:=by
 obtain ⟨i,R,o,_,F,_,h4,h5⟩:=K4 h
 have hi:=F.lt
 obtain ⟨q1,q2,q3⟩:=rz (s:=aE (i / 2)) (lg (dk i)) o R
 rw [←F.eq] at q1 q2 q3
 have hb:=WC F
 obtain ⟨f1,_⟩:=zt (n:=i / 2) aa (dk i) o
 have iI:=yT (s:=aE (i / 2)) (e:=aZ (dk i)) o R 0
 rw [←F.eq] at iI
 replace iI:(qn (aE (i / 2)) 0 R.flatten).length≤1000:=aa
 have aL:=K3 f1 iI (CV (s:=aE (i / 2)) (cs:=R.flatten) aa)
 rw [←h5] at aL
 have hsh:oP v=some (gi R):=by
  rw [h4]
  refine WD ?_ fun a ha=>?_
  ·have:=F.ne
   simpa using this
  ·obtain ⟨x,hx,rfl⟩:=List.mem_map.1 ha
   have:=(F.ok x hx).1
   simpa using this
 have:=WA hsh aL (by rw [hb];exact hl) (by rw [hb];exact h)
 rwa [hb] at this
theorem CI {α:Type} {x:List α}:∀ {R:List (List α)},x∈R→x.length≤R.flatten.length
 | r::R,h=>by
  rw [List.flatten_cons,List.length_append]
  rcases List.mem_cons.1 h with rfl|h
  ·omega
  ·have:=CI h
   omega
theorem LN {T:kB} (h1:T.length≤1000000) (h2:∀r∈T,r.length≤1000000∧∀x∈r,x.length≤1000000):VB 1048576 (lh T) :=
 .mk (fL 3) (fL 0) (Nat.zero_le _) (Nat.zero_le _) ae (by show (T.map oB).length≤_;simp;omega) (by
  intro x hx
  obtain ⟨r,hr,rfl⟩:=List.mem_map.1 (show x∈T.map oB from hx)
  obtain ⟨h3,h4⟩:=h2 r hr
  exact .mk (fL 3) (fL 0) (Nat.zero_le _) (Nat.zero_le _) ae (by show (r.map o8).length≤_;simp;omega) (by
   intro y hy
   obtain ⟨c,hc,rfl⟩:=List.mem_map.1 (show y∈r.map o8 from hy)
   exact qC (by have:=h4 c hc;omega)))
theorem WH {b:List UInt8} {v:ah} {r:List UInt8} (hl:b.length≤1000) (h:eD b=some (v,r)):VB 1048576 v∧(bC v).1=0∧(oP v).isSome=true∧sI v r=some b∧r.length≤100000000∧∃ls,K2 r=some ls∧ls.length≤4∧(ls=[]↔r=[]):=by
 have cr:=WG hl h
 have hsh:(oP v).isSome=true:=by
  unfold sI at cr
  cases hs:oP v with
  | none=>rw [hs] at cr;cases cr
  | some T=>rfl
 obtain ⟨i,R,o,_,F,hv,h4,h5⟩:=K4 h
 have hi:=F.lt
 obtain ⟨q1,q2,q3⟩:=rz (s:=aE (i / 2)) (lg (dk i)) o R
 have iI:=yT (s:=aE (i / 2)) (e:=aZ (dk i)) o R 0
 rw [←F.eq] at q1 q2 q3 iI
 obtain ⟨f1,_⟩:=zt (n:=i / 2) aa (dk i) o
 have hok:=CV (s:=aE (i / 2)) (cs:=R.flatten) aa
 have hz:∀n∈qn (aE (i / 2)) 0 R.flatten,n≤1000:=fun n hn=>by
  have:=hok.1 (n:Int) (List.mem_map.2 ⟨n,hn,rfl⟩)
  omega
 refine ⟨?_,by rw [h4];exact hv,hsh,cr,?_,?_⟩
 ·rw [h4]
  refine LN (by simp;omega) fun a ha=>?_
  obtain ⟨x,hx,rfl⟩:=List.mem_map.1 ha
  have hxl:=CI hx
  refine ⟨by simp;omega,fun y hy=>?_⟩
  obtain ⟨c,hc,rfl⟩:=List.mem_map.1 hy
  have:=q2 x hx c hc
  omega
 ·rw [h5]
  have:=Wx (fl:=fB (i / 2) (dk i) o) aa (Z:=qn (aE (i / 2)) 0 R.flatten) aa hz
  omega
 ·unfold K2
  rw [h5,K3 f1 aa hok]
  refine ⟨_,rfl,St _ _,?_⟩
  rw [Su f1,Wy,List.length_eq_zero_iff]
theorem KX {p:UInt8→Bool} {a:List UInt8} (h:∀c∈a,p c=true) {t:List UInt8} (ht:∀c r,t=c::r→p c=false):(a++t).takeWhile p=a∧(a++t).dropWhile p=t:=by
 induction a with
 | nil =>
  cases t with
  | nil=>exact ⟨rfl,rfl⟩
  | cons c r=>simp [ht c r rfl]
 | cons c a ih =>
  obtain ⟨h1,h2⟩:=ih fun x hx=>h x (by simp [hx])
  have hc:=h c ae
  simp only [List.cons_append,List.takeWhile_cons,List.dropWhile_cons,hc,if_true]
  exact ⟨by rw [h1],h2⟩
theorem D3 {p:UInt8→Bool}:∀ {l:List UInt8},∀c∈l.takeWhile p,p c=true
 | [],c,h=>by simp at h
 | x::l,c,h=>by
  simp only [List.takeWhile_cons] at h
  split at h
  ·rename_i hx
   rcases List.mem_cons.1 h with rfl|h
   ·exact hx
   ·exact D3 c h
  ·simp at h
theorem GN {α β:Type} {f g:α→List β}:∀ {l:List α},(∀x∈l,f x=g x)→l.flatMap f=l.flatMap g
 | [],_=>rfl
 | x::l,h=>by rw [List.flatMap_cons,List.flatMap_cons,h x ae,GN fun y hy=>h y (by simp [hy])]
abbrev aY (c:UInt8):Bool:=decide (c=32)||decide (c=9)||decide (c=13)||decide (c=10)
abbrev kp (c:UInt8):Bool:=decide (c.toNat<32)||decide (126<c.toNat)
abbrev gb (c:UInt8):Bool:=decide (48≤c.toNat)&&decide (c.toNat≤57)
abbrev iQ (c:UInt8):Bool:=fb c.toNat
def pI (n:Nat):UInt8:=if n<10 then UInt8.ofNat (48+n) else UInt8.ofNat (87+n)
def lG (c:UInt8):Option Nat:=if 48≤c.toNat∧c.toNat≤57 then some (c.toNat - 48) else if 97≤c.toNat∧c.toNat≤102 then some (c.toNat - 87) else none
theorem xI {c:UInt8} {n:Nat} (h:lG c=some n):n<16∧pI n=c:=by
 unfold lG at h
 split at h
 ·cases h
  rename_i h1
  refine ⟨aa,?_⟩
  unfold pI
  rw [if_pos aa]
  apply UInt8.toNat_inj.1
  rw [UInt8.toNat_ofNat']
  omega
 ·split at h
  ·cases h
   rename_i h1
   refine ⟨aa,?_⟩
   unfold pI
   rw [if_neg aa]
   apply UInt8.toNat_inj.1
   rw [UInt8.toNat_ofNat']
   omega
  ·cases h
def mV (c:UInt8):List UInt8:=if c=34∨c=92 then [92,c] else if kp c=true then [92,120,pI (c.toNat / 16),pI (c.toNat%16)] else [c]
def sw (b:List UInt8):List UInt8:=b.flatMap mV
def ow (b:List UInt8):List UInt8:=34::(sw b++[34])
def ri:List UInt8→Option (UInt8×List UInt8)
 | []=>none
 | c::r=>if c=34∨c=92 then some (c,r) else if c≠120 then none else match r with
  | h::l::r'=>(match lG h,lG l with
   | some a,some b=>if kp (UInt8.ofNat (16*a+b))=true then some (UInt8.ofNat (16*a+b),r') else none
   | _,_=>none)
  | _=>none
theorem Gw (c:UInt8) (r:List UInt8):ri (c::r)=if c=34∨c=92 then some (c,r) else if c≠120 then none else match r with
  | h::l::r'=>(match lG h,lG l with
   | some a,some b=>if kp (UInt8.ofNat (16*a+b))=true then some (UInt8.ofNat (16*a+b),r') else none
   | _,_=>none)
  | _=>none:=rfl
def gF:Nat→List UInt8→Option (List UInt8×List UInt8)
 | 0,_=>none
 | _+1,[]=>none
 | n+1,c::r=>if c=34 then some ([],r) else if kp c=true then none else if c=92 then (match ri r with
   | none=>none
   | some (d,r')=>(gF n r').map fun x=>(d::x.1,x.2)) else (gF n r).map fun x=>(c::x.1,x.2)
theorem JT {d:UInt8} (h:d=34∨d=92):mV d=[92,d]:=by unfold mV;rw [if_pos h]
theorem JV {d:UInt8} (h:kp d=true):mV d=[92,120,pI (d.toNat / 16),pI (d.toNat%16)]:=by
 have:¬(d=34∨d=92):=by
  rintro (rfl|rfl)<;>exact absurd h ag
 unfold mV
 rw [if_neg this,if_pos h]
theorem JU {d:UInt8} (h1:¬(d=34∨d=92)) (h2:kp d=false):mV d=[d]:=by
 unfold mV
 rw [if_neg h1,if_neg (by simp [h2])]
theorem Gx {r t:List UInt8} {d:UInt8} (h:ri r=some (d,t)):92::r=mV d++t∧t.length<r.length:=by
 cases r with
 | nil=>simp [ri] at h
 | cons c r =>
  rw [Gw] at h
  split at h
  ·rename_i hc
   cases h
   rw [JT hc]
   exact ⟨rfl,ae⟩
  ·split at h
   ·cases h
   ·rename_i h1 h2
    have hc:c=120:=Decidable.not_not.1 h2
    split at h
    ·rename_i x y r'
     split at h
     ·rename_i a b ha hb
      split at h
      ·rename_i hs
       cases h
       obtain ⟨a1,a2⟩:=xI ha
       obtain ⟨b1,b2⟩:=xI hb
       have hn:(UInt8.ofNat (16*a+b)).toNat=16*a+b:=by rw [UInt8.toNat_ofNat'];omega
       rw [JV hs,hn,show (16*a+b) / 16=a by omega,show (16*a+b)%16=b by omega,a2,b2,hc]
       exact ⟨rfl,by simp;omega⟩
      ·cases h
     ·cases h
    ·cases h
theorem Eb:∀ {n:Nat} {l b t:List UInt8},gF n l=some (b,t)→l=sw b++34::t
 | 0,l,b,t,h=>by simp [gF] at h
 | n+1,[],b,t,h=>by simp [gF] at h
 | n+1,c::r,b,t,h=>by
  rw [gF] at h
  split at h
  ·rename_i hc
   cases h
   rw [hc]
   rfl
  ·rename_i hc
   split at h
   ·cases h
   ·rename_i hs
    split at h
    ·rename_i pv
     split at h
     ·cases h
     ·rename_i d r' he
      obtain ⟨x,hx,h⟩:=Option.map_eq_some_iff.1 h
      obtain ⟨b',t'⟩:=x
      cases h
      have ih:=Eb hx
      rw [pv,(Gx he).1,ih]
      simp [sw]
    ·rename_i pv
     obtain ⟨x,hx,h⟩:=Option.map_eq_some_iff.1 h
     obtain ⟨b',t'⟩:=x
     cases h
     have ih:=Eb hx
     rw [ih]
     simp [sw,JU (d:=c) (by rintro (h|h);exact hc h;exact pv h) (by simpa using hs)]
theorem Uo (c:UInt8):∃x r,mV c=x::r∧x≠34:=by
 by_cases h1:c=34∨c=92
 ·exact ⟨92,[c],JT h1,ag⟩
 ·by_cases h2:kp c=true
  ·exact ⟨92,_,JV h2,ag⟩
  ·exact ⟨c,[],JU h1 (by simpa using h2),fun e=>h1 (.inl e)⟩
def lj (s:List UInt8):Option Int:=match Lib.atoiAll s with
 | .ok v=>if Lib.itoa v=s then some v else none
 | _=>none
theorem WZ {s:List UInt8} {v:Int} (h:lj s=some v):s=Lib.itoa v∧bI v:=by
 unfold lj at h
 split at h
 ·rename_i u hu
  split at h
  ·rename_i he
   cases h
   exact ⟨he.symm,Lib.atoiAll_bounds hu⟩
  ·cases h
 ·cases h
theorem F7 {n:Nat} (h:n<10):(UInt8.ofNat (48+n)).toNat=48+n:=by rw [UInt8.toNat_ofNat'];omega
theorem AQ:∀(u:Nat),∀c∈Lib.decDigits u,gb c=true:=by
 intro u
 induction u using Nat.strongRecOn with
 | _ u ih =>
  intro c hc
  by_cases h:u<10
  ·rw [Lib.decDigits_one h] at hc
   simp only [List.mem_singleton] at hc
   subst hc
   simp only [gb,F7 h]
   simp
   omega
  ·rw [Lib.decDigits,dif_neg h] at hc
   rcases List.mem_append.1 hc with hc|hc
   ·exact ih (u / 10) aa c hc
   ·simp only [List.mem_singleton] at hc
    subst hc
    simp only [gb,F7 (show u%10<10 by omega)]
    simp
    omega
theorem Ot (u:Nat):∃c r,Lib.decDigits u=c::r:=by
 cases h:Lib.decDigits u with
 | nil =>
  have:=Lib.decDigits_length u
  rw [h] at this
  have:=Lib.nDigits_pos u
  simp at *
  omega
 | cons c r=>exact ⟨c,r,rfl⟩
def oh (l:List UInt8):List UInt8:=match l with
 | []=>[]
 | c::r=>if c=45 then 45::r.takeWhile gb else (c::r).takeWhile gb
theorem Jh (c:UInt8) (r:List UInt8):oh (c::r)=if c=45 then 45::r.takeWhile gb else (c::r).takeWhile gb:=rfl
theorem Ts (l:List UInt8):∃t,l=oh l++t:=by
 cases l with
 | nil=>exact ⟨[],rfl⟩
 | cons c r =>
  rw [Jh]
  split
  ·rename_i h
   exact ⟨r.dropWhile gb,by rw [h,List.cons_append,List.takeWhile_append_dropWhile]⟩
  ·exact ⟨(c::r).dropWhile gb,by rw [List.takeWhile_append_dropWhile]⟩
theorem Cu (v:Int):∃c r,Lib.itoa v=c::r∧(c=45∨gb c=true)∧∀x∈r,gb x=true:=by
 unfold Lib.itoa
 split
 ·exact ⟨45,_,rfl,.inl rfl,AQ _⟩
 ·obtain ⟨c,r,hc⟩:=Ot v.toNat
  rw [hc]
  exact ⟨c,r,rfl,.inr (AQ v.toNat c (by rw [hc];simp)),fun x hx=>AQ v.toNat x (by rw [hc];simp [hx])⟩
abbrev Tok:=List UInt8
abbrev af (s:Tok):Bool:=decide (s=[44])||decide (s=[58])
abbrev sS (sp:Bool):List UInt8:=if sp=true then [32] else []
def fC:ah→List Tok
 | .mk k n b s ps=>if k=1 then [Lib.itoa n] else if k=2 then [ow b] else
  [if k=4 then 123 else 91]::((ps.attach.zipIdx.flatMap fun p=>(if p.2=0 then [] else [[44]])++((if k=4 then [s.getD p.2 [],[58]] else [])++fC p.1.1))++[[if k=4 then 125 else 93]])
decreasing_by
 have:=List.sizeOf_lt_of_mem p.1.2
 simp only [ah.mk.sizeOf_spec]
 omega
def kt (k:Int) (s:List (List UInt8)) (i:Nat) (p:ah):List Tok:=(if i=0 then [] else [[44]])++((if k=4 then [s.getD i [],[58]] else [])++fC p)
def fS (k:Int) (s:List (List UInt8)) (ps:List ah):List Tok:=ps.zipIdx.flatMap fun p=>kt k s p.2 p.1
abbrev oo (k:Int):Tok:=[if k=4 then 123 else 91]
abbrev pg (k:Int):Tok:=[if k=4 then 125 else 93]
theorem vK (v:ah):fC v=if v.kind=1 then [Lib.itoa v.num] else if v.kind=2 then [ow v.bytes] else oo v.kind::(fS v.kind v.names v.parts++[pg v.kind]):=by
 cases v with
 | mk k n b s ps =>
  rw [fC]
  simp only [ah.parts]
  split
  ·rfl
  ·split
   ·rfl
   ·congr 2
    unfold fS kt
    conv=>rhs;rw [←List.attach_map_subtype_val ps,List.zipIdx_map,List.flatMap_map]
    rfl
theorem K8 (n:Int):fC (.mk 1 n [] [] [])=[Lib.itoa n]:=by rw [vK,if_pos rfl]
theorem D7 (b:List UInt8):fC (.mk 2 0 b [] [])=[ow b]:=(vK _).trans rfl
theorem D8 (ps:List ah):fC (.mk 3 0 [] [] ps)=oo 3::(fS 3 [] ps++[pg 3]):=(vK _).trans rfl
theorem D9 (s:List (List UInt8)) (ps:List ah):fC (.mk 4 0 [] s ps)=oo 4::(fS 4 s ps++[pg 4]):=(vK _).trans rfl
theorem K6 (k:Int) (s:List (List UInt8)) (ps:List ah) (p:ah):fS k s (ps++[p])=fS k s ps++kt k s ps.length p:=by
 unfold fS
 rw [List.zipIdx_append,List.flatMap_append]
 simp
theorem WX (k:Int) (s t:List (List UInt8)) (ps:List ah) (h:k=4→ps.length≤s.length):fS k (s++t) ps=fS k s ps:=by
 unfold fS
 refine GN fun p hp=>?_
 unfold kt
 by_cases hk:k=4
 ·rw [if_pos hk,if_pos hk]
  have h1:=h hk
  have h2:p.2<ps.length:=by
   obtain ⟨i,hi⟩:=List.mem_iff_getElem?.1 hp
   rw [List.getElem?_zipIdx] at hi
   obtain ⟨x,hx,rfl⟩:=Option.map_eq_some_iff.1 hi
   simpa using (List.getElem?_eq_some_iff.1 hx).1
  have e:(s++t).getD p.2 []=s.getD p.2 []:=by simp [List.getD,List.getElem?_append_left (show p.2<s.length by omega)]
  rw [e]
 ·rw [if_neg hk,if_neg hk]
inductive gm:ah→Prop where
 | num {n:Int} (h:bI n):gm (.mk 1 n [] [] [])
 | ia (b:List UInt8):gm (.mk 2 0 b [] [])
 | CG {ps:List ah} (h:∀p∈ps,gm p):gm (.mk 3 0 [] [] ps)
 | Dk {s:List (List UInt8)} {ps:List ah} (hs:∀x∈s,dp x=true) (hl:s.length=ps.length) (h:∀p∈ps,gm p):gm (.mk 4 0 [] s ps)
structure RS where
 rest:List UInt8
 cnt:Nat
 last:Tok
 dt:List (Nat×List UInt8)
def nc (want:List UInt8) (s:RS):RS:=⟨s.rest.dropWhile aY,s.cnt+1,[],if s.rest.takeWhile aY=want then s.dt else s.dt++[(s.cnt,s.rest.takeWhile aY)]⟩
def pk (s:RS):Option UInt8:=(s.rest.dropWhile aY).head?
abbrev ei (s:RS):RS:=nc (sS (af s.last)) s
def gD (c:UInt8) (s:RS):Option RS:=if pk s=some c then some { ei s with last:=[c],rest:=(s.rest.dropWhile aY).tail } else none
def lP (s:RS):Option (List UInt8×RS):=if pk s=none then none else
 if dp ((s.rest.dropWhile aY).takeWhile iQ)=true then some ((s.rest.dropWhile aY).takeWhile iQ,{ ei s with rest:=(s.rest.dropWhile aY).dropWhile iQ }) else none
def og (s:RS):Option (Int×RS):=match lj (oh (s.rest.dropWhile aY)) with
 | none=>none
 | some v=>some (v,{ ei s with rest:=(s.rest.dropWhile aY).drop (oh (s.rest.dropWhile aY)).length })
def nk (s:RS):Option (List UInt8×RS):=match gF ((s.rest.dropWhile aY).length+1) (s.rest.dropWhile aY).tail with
 | none=>none
 | some (b,t)=>some (b,{ ei s with rest:=t })
abbrev EL:=List (List UInt8)×List ah×RS
abbrev iE:=RS→Option (ah×RS)
def jn (f:iE) (ns:List (List UInt8)) (ps:List ah) (s:RS):Option EL:=match f s with
 | none=>none
 | some (v,s)=>some (ns,ps++[v],s)
def eX (f:iE) (k:Int) (x:EL):Option EL :=
 if k=4 then match lP x.2.2 with
  | none=>none
  | some (nm,s)=>match gD 58 s with
   | none=>none
   | some s=>jn f (x.1++[nm]) x.2.1 s
 else jn f x.1 x.2.1 x.2.2
def lN (f:iE) (k:Int):Nat→EL→Option EL
 | 0,_=>none
 | n+1,x=>match pk x.2.2 with
  | none=>none
  | some c=>if c=44 then (match gD 44 x.2.2 with
    | none=>none
    | some s=>match eX f k (x.1,x.2.1,s) with
     | none=>none
     | some y=>lN f k n y) else some x
def iF (e:UInt8) (x:EL):Option EL:=match gD e x.2.2 with
 | none=>none
 | some s=>some (x.1,x.2.1,s)
def lO (f:iE) (k:Int) (s:RS):Option EL:=match gD (if k=4 then 123 else 91) s with
 | none=>none
 | some s=>match pk s with
  | none=>none
  | some c=>if c=(if k=4 then 125 else 93) then iF (if k=4 then 125 else 93) ([],[],s) else match eX f k ([],[],s) with
   | none=>none
   | some y=>match lN f k (y.2.2.rest.length+1) y with
    | none=>none
    | some z=>iF (if k=4 then 125 else 93) z
def du:Nat→iE
 | 0,_=>none
 | n+1,s=>match pk s with
  | none=>none
  | some c=>if c=34 then (nk s).map fun x=>(.mk 2 0 x.1 [] [],x.2)
   else if c=91 then (lO (du n) 3 s).map fun x=>(.mk 3 0 [] x.1 x.2.1,x.2.2)
   else if c=123 then (lO (du n) 4 s).map fun x=>(.mk 4 0 [] x.1 x.2.1,x.2.2)
   else (og s).map fun x=>(.mk 1 x.1 [] [] [],x.2)
def nj (l:List UInt8):Option (ah×List (Nat×List UInt8)):=match du (l.length+1) ⟨l,0,[],[]⟩ with
 | none=>none
 | some (v,s)=>if (nc [10] s).rest=[] then some (v,(nc [10] s).dt) else none
abbrev BL:=List (List UInt8×Tok)
def fq (L:BL):List UInt8:=L.flatMap fun p=>p.1++p.2
def dE:Nat→Bool→BL→List (Nat×List UInt8)
 | _,_,[]=>[]
 | i,sp,p::L=>(if p.1=sS sp then [] else [(i,p.1)])++dE (i+1) (af p.2) L
def qT (sp:Bool):BL→Bool
 | []=>sp
 | p::L=>qT (af p.2) L
theorem GL (a b:BL):fq (a++b)=fq a++fq b:=by simp [fq]
theorem xd (p:List UInt8×Tok) (b:BL):fq (p::b)=p.1++(p.2++fq b):=by simp [fq]
theorem EK:∀(sp:Bool) (a b:BL),qT sp (a++b)=qT (qT sp a) b
 | _,[],_=>rfl
 | _,_::a,b=>EK _ a b
theorem F8:∀(i:Nat) (sp:Bool) (a b:BL),dE i sp (a++b)=dE i sp a++dE (i+a.length) (qT sp a) b
 | _,_,[],_=>rfl
 | i,sp,p::a,b=>by
  rw [List.cons_append,dE,dE,F8 (i+1) (af p.2) a b,List.append_assoc,List.length_cons,show i+1+a.length=i+(a.length+1) by omega]
  rfl
structure cY (s:RS) (L:BL) (s':RS):Prop where
 rest:s.rest=fq L++s'.rest
 bk:∀p∈L,∀c∈p.1,aY c=true
 cnt:s'.cnt=s.cnt+L.length
 sp:af s'.last=qT (af s.last) L
 dt:s'.dt=s.dt++dE s.cnt (af s.last) L
theorem cY.refl (s:RS):cY s [] s:=⟨rfl,ae,rfl,rfl,by simp [dE]⟩
theorem cY.trans {a b c:RS} {L M:BL} (h:cY a L b) (k:cY b M c):cY a (L++M) c:=by
 refine ⟨by rw [h.rest,k.rest,GL,List.append_assoc],fun p hp=>?_,by rw [k.cnt,h.cnt,List.length_append,Nat.add_assoc],by rw [k.sp,h.sp,EK],by rw [k.dt,h.dt,F8,List.append_assoc,h.cnt,h.sp]⟩
 rcases List.mem_append.1 hp with hp|hp
 ·exact h.bk p hp
 ·exact k.bk p hp
theorem cY.one {s:RS} {t:Tok} {r:List UInt8} {ls:Tok} (h:s.rest.dropWhile aY=t++r) (hl:af ls=af t):cY s [(s.rest.takeWhile aY,t)] { ei s with last:=ls,rest:=r }:=by
 refine ⟨?_,?_,rfl,hl,?_⟩
 ·conv=>lhs;rw [←List.takeWhile_append_dropWhile (p:=aY) (l:=s.rest),h]
  simp [fq]
 ·intro p hp
  simp only [List.mem_singleton] at hp
  subst hp
  exact D3
 ·simp only [nc,dE,List.append_nil]
  split<;>simp
theorem vx {c:UInt8} {s s':RS} (h:gD c s=some s'):cY s [(s.rest.takeWhile aY,[c])] s':=by
 unfold gD at h
 split at h
 ·rename_i hp
  cases h
  refine cY.one ?_ rfl
  unfold pk at hp
  cases hd:s.rest.dropWhile aY with
  | nil=>rw [hd] at hp;cases hp
  | cons x r=>rw [hd] at hp;cases hp;rfl
 ·cases h
theorem Td {x:List UInt8} (h:dp x=true):af x=false:=by
 cases e:af x with
 | false=>rfl
 | true =>
  simp only [af,Bool.or_eq_true,decide_eq_true_eq] at e
  rcases e with rfl|rfl<;>exact absurd h ag
theorem Up (b:List UInt8):af (ow b)=false:=by
 simp [af,ow]
theorem RW (v:Int):af (Lib.itoa v)=false:=by
 obtain ⟨c,r,hc,h1,_⟩:=Cu v
 rw [hc]
 cases e:af (c::r) with
 | false=>rfl
 | true =>
  simp only [af,Bool.or_eq_true,decide_eq_true_eq,List.cons.injEq] at e
  rcases e with ⟨rfl,_⟩|⟨rfl,_⟩<;>rcases h1 with h1|h1<;>exact absurd h1 ag
theorem Jc {s s':RS} {x:List UInt8} (h:lP s=some (x,s')):cY s [(s.rest.takeWhile aY,x)] s'∧dp x=true:=by
 unfold lP at h
 split at h
 ·cases h
 ·split at h
  ·rename_i hn
   cases h
   exact ⟨cY.one (by rw [List.takeWhile_append_dropWhile]) (by rw [Td hn];rfl),hn⟩
  ·cases h
theorem Tq {s s':RS} {v:Int} (h:og s=some (v,s')):cY s [(s.rest.takeWhile aY,Lib.itoa v)] s'∧bI v:=by
 unfold og at h
 split at h
 ·cases h
 ·rename_i u hu
  cases h
  obtain ⟨h1,h2⟩:=WZ hu
  refine ⟨cY.one ?_ (by rw [RW];rfl),h2⟩
  obtain ⟨t,ht⟩:=Ts (s.rest.dropWhile aY)
  rw [h1] at ht
  rw [h1]
  conv=>lhs;rw [ht]
  congr 1
  conv=>rhs;rw [ht]
  rw [List.drop_left]
theorem Xe {s s':RS} {b:List UInt8} (hp:pk s=some 34) (h:nk s=some (b,s')):cY s [(s.rest.takeWhile aY,ow b)] s':=by
 unfold nk at h
 split at h
 ·cases h
 ·rename_i b' t hs
  cases h
  refine cY.one ?_ (by rw [Up];rfl)
  have h1:=Eb hs
  unfold pk at hp
  cases hd:s.rest.dropWhile aY with
  | nil=>rw [hd] at hp;cases hp
  | cons x r =>
   rw [hd] at hp h1
   cases hp
   simp only [List.tail_cons] at h1
   rw [h1]
   simp [ow]
def oV (f:iE):Prop:=∀s v s',f s=some (v,s')→∃L,cY s L s'∧L.map Prod.snd=fC v∧gm v
structure qN (k:Int) (s0:RS) (x:EL):Prop where
 ex:∃L,cY s0 L x.2.2∧L.map Prod.snd=fS k x.1 x.2.1
 wf:∀p∈x.2.1,gm p
 nm:∀n∈x.1,dp n=true
 len:k=4→x.1.length=x.2.1.length
 nil:k≠4→x.1=[]
theorem Gj {f:iE} (hf:oV f) {ns:List (List UInt8)} {ps:List ah} {s:RS} {y:EL} (h:jn f ns ps s=some y):∃v L,y.1=ns∧y.2.1=ps++[v]∧cY s L y.2.2∧L.map Prod.snd=fC v∧gm v:=by
 unfold jn at h
 split at h
 ·cases h
 ·rename_i v s' hv
  cases h
  obtain ⟨L,h1,h2,h3⟩:=hf _ _ _ hv
  exact ⟨v,L,rfl,rfl,h1,h2,h3⟩
theorem Gi {f:iE} (hf:oV f) {k:Int} {s0 s1:RS} {ns:List (List UInt8)} {ps:List ah} {s:RS} {y:EL} (hx:qN k s0 (ns,ps,s1)) {L0:BL} (h0:cY s1 L0 s) (hL0:L0.map Prod.snd=(if ps.length=0 then [] else [[44]])) (h:eX f k (ns,ps,s)=some y):qN k s0 y:=by
 obtain ⟨⟨L,hL,ht⟩,hw,hn,hl,hz⟩:=hx
 dsimp only at hL ht hw hn hl hz
 unfold eX at h
 split at h
 ·rename_i hk
  split at h
  ·cases h
  ·rename_i nm s2 h2
   split at h
   ·cases h
   ·rename_i s3 h3
    obtain ⟨v,M,e1,e2,h4,h5,h6⟩:=Gj hf h
    obtain ⟨y1,y2,y3⟩:=y
    dsimp only at e1 e2 h4
    subst e1 e2
    obtain ⟨h7,h8⟩:=Jc h2
    have h9:=vx h3
    refine ⟨⟨_,((hL.trans h0).trans ((h7.trans h9).trans h4)),?_⟩,?_,?_,fun _=>by have:=hl hk;simp;omega,fun hk'=>absurd hk hk'⟩
    ·rw [K6,WX k ns [nm] ps (fun _=>by have:=hl hk;omega)]
     unfold kt
     rw [if_pos hk]
     have e:(ns++[nm]).getD ps.length []=nm:=by
      have:=hl hk
      simp [List.getD,←this]
     rw [e]
     simp only [List.map_append,List.map_cons,List.map_nil,ht,hL0,h5]
     simp
    ·intro p hp
     rcases List.mem_append.1 hp with hp|hp
     ·exact hw p hp
     ·simp only [List.mem_singleton] at hp
      subst hp
      exact h6
    ·intro n hn'
     rcases List.mem_append.1 hn' with hn'|hn'
     ·exact hn n hn'
     ·simp only [List.mem_singleton] at hn'
      subst hn'
      exact h8
 ·rename_i hk
  obtain ⟨v,M,e1,e2,h4,h5,h6⟩:=Gj hf h
  obtain ⟨y1,y2,y3⟩:=y
  dsimp only at e1 e2 h4
  subst e1 e2
  refine ⟨⟨_,(hL.trans h0).trans h4,?_⟩,?_,hn,fun hk'=>absurd hk' hk,hz⟩
  ·rw [K6]
   unfold kt
   rw [if_neg hk]
   simp only [List.map_append,ht,hL0,h5]
   simp
  ·intro p hp
   rcases List.mem_append.1 hp with hp|hp
   ·exact hw p hp
   ·simp only [List.mem_singleton] at hp
    subst hp
    exact h6
theorem Gh {f:iE} {k:Int} {x y:EL} (h:eX f k x=some y):y.2.1.length=x.2.1.length+1:=by
 have key:∀ns ps s,jn f ns ps s=some y→y.2.1.length=ps.length+1:=by
  intro ns ps s h
  unfold jn at h
  split at h
  ·cases h
  ·cases h;simp
 unfold eX at h
 split at h
 ·split at h
  ·cases h
  ·split at h
   ·cases h
   ·exact key _ _ _ h
 ·exact key _ _ _ h
theorem IZ {f:iE} (hf:oV f) {k:Int} {s0:RS}:∀ {n:Nat} {x y:EL},qN k s0 x→x.2.1.length≠0→lN f k n x=some y→qN k s0 y
 | 0,x,y,_,_,h=>by simp [lN] at h
 | n+1,x,y,hx,hne,h=>by
  rw [lN] at h
  split at h
  ·cases h
  ·split at h
   ·split at h
    ·cases h
    ·rename_i s hs
     split at h
     ·cases h
     ·rename_i z hz
      refine IZ hf ?_ (by rw [Gh hz];omega) h
      obtain ⟨ns,ps,s1⟩:=x
      exact Gi hf hx (vx hs) (by rw [if_neg hne];rfl) hz
   ·cases h
    exact hx
theorem OE {e:UInt8} {x y:EL} (h:iF e x=some y):y.1=x.1∧y.2.1=x.2.1∧cY x.2.2 [(x.2.2.rest.takeWhile aY,[e])] y.2.2:=by
 unfold iF at h
 split at h
 ·cases h
 ·rename_i s hs
  cases h
  exact ⟨rfl,rfl,vx hs⟩
theorem I3 {f:iE} (hf:oV f) {k:Int} {s:RS} {y:EL} (h:lO f k s=some y) :
  (∃L,cY s L y.2.2∧L.map Prod.snd=oo k::(fS k y.1 y.2.1++[pg k]))∧(∀p∈y.2.1,gm p)∧(∀n∈y.1,dp n=true)∧(k=4→y.1.length=y.2.1.length)∧(k≠4→y.1=[]):=by
 obtain ⟨e,he⟩:∃e,e=(if k=4 then (125:UInt8) else 93):=⟨_,rfl⟩
 have fin:∀s1 x,cY s [(s.rest.takeWhile aY,oo k)] s1→qN k s1 x→iF e x=some y →
   (∃L,cY s L y.2.2∧L.map Prod.snd=oo k::(fS k y.1 y.2.1++[pg k]))∧(∀p∈y.2.1,gm p)∧(∀n∈y.1,dp n=true)∧(k=4→y.1.length=y.2.1.length)∧(k≠4→y.1=[]):=by
  intro s1 x h1 hx hen
  obtain ⟨e1,e2,h2⟩:=OE hen
  obtain ⟨⟨L,hL,ht⟩,hw,hn,hl,hz⟩:=hx
  rw [e1,e2]
  refine ⟨⟨_,h1.trans (hL.trans h2),?_⟩,hw,hn,hl,hz⟩
  subst he
  simp [ht]
 unfold lO at h
 rw [←he] at h
 split at h
 ·cases h
 ·rename_i s1 h1
  have h1:=vx h1
  have hz:qN k s1 ([],[],s1):=⟨⟨[],cY.refl _,rfl⟩,ae,ae,fun _=>rfl,fun _=>rfl⟩
  split at h
  ·cases h
  ·split at h
   ·exact fin s1 _ h1 hz h
   ·split at h
    ·cases h
    ·rename_i z oa
     split at h
     ·cases h
     ·rename_i u hu
      refine fin s1 u h1 (IZ hf ?_ (by rw [Gh oa];simp) hu) h
      exact Gi hf hz (cY.refl _) ae oa
theorem y0:∀(n:Nat),oV (du n)
 | 0=>fun s v s' h=>by simp [du] at h
 | n+1=>fun s v s' h=>by
  have ih:=y0 n
  rw [du] at h
  split at h
  ·cases h
  ·rename_i c hc
   split at h
   ·rename_i dh
    obtain ⟨x,hx,h⟩:=Option.map_eq_some_iff.1 h
    obtain ⟨b,s2⟩:=x
    cases h
    exact ⟨_,Xe (by rw [hc,dh]) hx,by rw [D7];rfl,.ia b⟩
   ·split at h
    ·obtain ⟨x,hx,h⟩:=Option.map_eq_some_iff.1 h
     obtain ⟨ns,ps,s2⟩:=x
     cases h
     obtain ⟨⟨L,h1,h2⟩,h3,h4,h5,h6⟩:=I3 ih hx
     obtain rfl:ns=[]:=h6 ag
     exact ⟨L,h1,by rw [D8,h2],.CG h3⟩
    ·split at h
     ·obtain ⟨x,hx,h⟩:=Option.map_eq_some_iff.1 h
      obtain ⟨ns,ps,s2⟩:=x
      cases h
      obtain ⟨⟨L,h1,h2⟩,h3,h4,h5,h6⟩:=I3 ih hx
      exact ⟨L,h1,by rw [D9,h2],.Dk h4 (h5 rfl) h3⟩
     ·obtain ⟨x,hx,h⟩:=Option.map_eq_some_iff.1 h
      obtain ⟨u,s2⟩:=x
      cases h
      obtain ⟨h1,h2⟩:=Tq hx
      exact ⟨_,h1,by rw [K8];rfl,.num h2⟩
abbrev vZ (b:List UInt8):Prop:=∀c∈b,aY c=true
theorem Na {c:UInt8} (h:aY c=true):c=32∨c=9∨c=13∨c=10:=by
 simpa [aY,or_assoc] using h
theorem CJ {x:List UInt8} (h:dp x=true):∃c r,x=c::r∧(97≤c.toNat∧c.toNat≤122)∧∀y∈x,iQ y=true:=by
 unfold dp at h
 simp only [Bool.and_eq_true,decide_eq_true_eq,List.all_eq_true] at h
 obtain ⟨h1,h2,h3⟩:=h
 cases x with
 | nil=>simp at h1
 | cons c r=>exact ⟨c,r,rfl,by simpa using h2,h3⟩
theorem IY {c:UInt8} (h:33≤c.toNat):aY c=false:=by
 cases e:aY c with
 | false=>rfl
 | true=>rcases Na e with rfl|rfl|rfl|rfl<;>exact absurd h ag
theorem RX (v:Int):∃c r,Lib.itoa v=c::r∧aY c=false∧c≠34∧c≠91∧c≠123:=by
 obtain ⟨c,r,hc,h1,_⟩:=Cu v
 refine ⟨c,r,hc,?_⟩
 rcases h1 with rfl|h1
 ·decide
 ·simp only [gb,Bool.and_eq_true,decide_eq_true_eq] at h1
  refine ⟨IY aa,?_,?_,?_⟩<;>(rintro rfl;exact absurd h1 ag)
def Ma (L:BL):Prop:=∀p∈L,vZ p.1
def ni (k:Int) (s:List (List UInt8)) (i:Nat) (ps:List ah):List Tok:=(ps.zipIdx i).flatMap fun p=>kt k s p.2 p.1
theorem WY (k:Int) (s:List (List UInt8)) (i:Nat) (p:ah) (ps:List ah):ni k s i (p::ps)=kt k s i p++ni k s (i+1) ps:=by
 unfold ni
 rw [List.zipIdx_cons,List.flatMap_cons]
structure Fit (l:List UInt8) (v:ah) (L:BL) (lb:List UInt8):Prop where
 eq:l=fq L++lb
 bk:Ma L
 bl:vZ lb
 tk:L.map Prod.snd=fC v
 wf:gm v
abbrev kg (L:BL) (lb:List UInt8):List (Nat×List UInt8):=dE 0 false L++(if lb=[10] then [] else [(L.length,lb)])
theorem dropWhile_nil {p:UInt8→Bool} {l:List UInt8} (h:l.dropWhile p=[]):(∀c∈l,p c=true)∧l.takeWhile p=l:=by
 have e:l.takeWhile p=l:=by
  conv=>rhs;rw [←List.takeWhile_append_dropWhile (p:=p) (l:=l),h,List.append_nil]
 exact ⟨by rw [←e];exact D3,e⟩
theorem Lb {l:List UInt8} {v:ah} {o:List (Nat×List UInt8)} (h:nj l=some (v,o)):∃L lb,Fit l v L lb∧o=kg L lb:=by
 unfold nj at h
 split at h
 ·cases h
 ·rename_i v' s hv
  split at h
  ·rename_i hr
   cases h
   obtain ⟨L,h1,h2,h3⟩:=y0 _ _ _ _ hv
   obtain ⟨h4,h5⟩:=dropWhile_nil (show s.rest.dropWhile aY=[] from hr)
   refine ⟨L,s.rest,⟨h1.rest,h1.bk,h4,h2,h3⟩,?_⟩
   have e1:=h1.dt
   have e2:=h1.cnt
   simp only [List.nil_append,Nat.zero_add] at e1 e2
   simp only [nc,h5,e1,e2,kg]
   split
   ·simp;rfl
   ·rfl
  ·cases h
abbrev fU:=Nat×List UInt8
abbrev dM (x:fU):List UInt8:=ax x.1++cx x.2
def l7 (o:List fU):List UInt8:=if o=[] then [] else bj dM o
def yJ (b:List UInt8) (p:Nat):fV (Int×List UInt8):=match cC b p with
 | .bad c i=>.bad c i
 | .ok n q=>match wI b q with
  | .bad c i=>.bad c i
  | .ok t r=>.ok (n,t) r
def okB (z:List (Int×List UInt8)):Prop:=(∀x∈z,(0≤x.1∧x.1≤2000)∧∀c∈x.2,aY c=true)∧z.Pairwise fun x y=>x.1<y.1
instance (z:List (Int×List UInt8)):Decidable (okB z):=by unfold okB;infer_instance
def Ec (b:List UInt8):Option (List (Int×List UInt8)):=match dK b (yJ b) 1000 0 with
 | .bad _ _=>none
 | .ok z q=>if q=b.length then some z else none
def vM (b:List UInt8):Option (List fU):=if b=[] then some [] else match Ec b with
 | none=>none
 | some z=>if z≠[]∧okB z then some (z.map fun x=>(x.1.toNat,x.2)) else none
def fi (l:List UInt8):Option (ah×List UInt8):=match nj l with
 | none=>none
 | some (v,o)=>if (bC v).1=0 then some (v,l7 o) else none
structure EH where
 out:List UInt8
 cnt:Nat
 last:Tok
def iM (Z:List fU) (i:Nat):Option (List UInt8):=(Z.find? fun x=>decide (x.1=i)).map Prod.snd
def sK (Z:List fU) (s:EH) (t:Tok):EH:=⟨s.out++(match iM Z s.cnt with
 | some b=>b
 | none=>if t=[] then [10] else sS (af s.last))++t,s.cnt+1,t⟩
def vL (v:ah) (Z:List fU):List UInt8:=(sK Z ((fC v).foldl (sK Z) ⟨[],0,[]⟩) []).out
def W5 (v:ah):Option ah:=some v
noncomputable def zu (v:ah) (b:List UInt8):Option (List UInt8):=match vM b with
 | none=>none
 | some Z=>open Classical in if (vL v Z).length≤1000∧fi (vL v Z)=some (v,b) then some (vL v Z) else none
abbrev Sw:List UInt8:=[98,108,97,110,107,115]
def Lc (b:List UInt8):Option (List jN):=match vM b with
 | none=>none
 | some Z=>some (if Z.length=0 then [] else [(Sw,(Z.length:Int))])
theorem TP {n:Nat} {t:List UInt8} (hn:n≤1000000) (ht:t.length≤1000000) (l r:List UInt8):yJ (l++(dM (n,t)++r)) l.length=.ok ((n:Int),t) (l.length+(dM (n,t)).length):=by
 unfold yJ
 have e1:l++(dM (n,t)++r)=l++(ax (n:Int)++(cx t++r)):=by simp [dM]
 have e2:l++(dM (n,t)++r)=(l++ax (n:Int))++(cx t++r):=by simp [dM]
 have h1:=gS (n:=(n:Int)) aa aa l (cx t++r)
 rw [←e1] at h1
 have h2:=Fh (b:=t) aa (l++ax (n:Int)) r
 rw [←e2,List.length_append] at h2
 rw [h1]
 simp only
 rw [h2]
 simp only [dM,List.length_append,Nat.add_assoc]
abbrev zB (Z:List fU):List (Int×List UInt8):=Z.map fun x=>((x.1:Int),x.2)
theorem W0 {Z:List fU} (hl:Z.length≤1000) (hz:∀x∈Z,x.1≤1000000∧x.2.length≤1000000):Ec (bj dM Z)=some (zB Z):=by
 obtain ⟨b,hb⟩:∃b,b=bj dM Z:=⟨_,rfl⟩
 rw [←hb]
 have e2:b=[]++(ax (Z.length:Int)++(Z.flatMap dM++[])):=by rw [hb,bj,List.append_nil];rfl
 have n2:=gS (n:=(Z.length:Int)) aa aa [] (Z.flatMap dM++[])
 rw [←e2] at n2
 have hbl:=congrArg List.length e2
 simp only [List.length_append,List.length_nil,Nat.zero_add,Nat.add_zero] at hbl
 simp only [List.length_nil,Nat.zero_add] at n2
 have n3:=rT (f:=fun x:Int×List UInt8=>dM (x.1.toNat,x.2)) (b:=b) (one:=yJ b) (zB Z) (ax (Z.length:Int)).length aa (fun x hx q r hq hd=>by
  obtain ⟨n,hn,rfl⟩:=List.mem_map.1 hx
  obtain ⟨n,t⟩:=n
  have:=hz _ hn
  dsimp only at this
  have e:b=b.take q++(dM (n,t)++r):=by
   simp only [Int.toNat_natCast] at hd
   rw [←hd,List.take_append_drop]
  have dI:(b.take q).length=q:=by simp;omega
  have:=TP this.1 this.2 (b.take q) r
  rw [dI,←e] at this
  simpa using this) [] (by
   conv=>lhs;rw [e2]
   rw [List.nil_append,List.drop_left]
   congr 1
   simp [zB,List.flatMap_map])
 unfold Ec dK
 rw [n2]
 simp only
 rw [if_neg aa,Int.toNat_natCast]
 have p7:(zB Z).length=Z.length:=by simp [zB]
 rw [p7] at n3
 rw [n3]
 simp only
 have e3:((zB Z).flatMap fun x=>dM (x.1.toNat,x.2))=Z.flatMap dM:=by simp [zB,List.flatMap_map]
 rw [e3,if_pos aa]
theorem X2 (Z:List fU):((zB Z).map fun x=>(x.1.toNat,x.2))=Z:=by
 unfold zB
 rw [List.map_map]
 conv=>rhs;rw [←List.map_id Z]
 exact List.map_congr_left fun x _=>by simp
theorem W4 {Z:List fU} (hl:Z.length≤1000) (hz:∀x∈Z,(x.1≤2000∧x.2.length≤1000000)∧vZ x.2) (hs:Z.Pairwise fun x y=>x.1<y.1):vM (l7 Z)=some Z:=by
 unfold l7
 split
 ·rename_i h
  rw [h];rfl
 ·rename_i hne
  unfold vM
  rw [if_neg,W0 hl fun x hx=>by have:=hz x hx;exact ⟨aa,aa⟩]
  ·simp only
   rw [if_pos,X2]
   refine ⟨fun q=>hne (by simpa [zB] using q),?_,?_⟩
   ·intro x hx
    obtain ⟨y,hy,rfl⟩:=List.mem_map.1 hx
    have:=hz y hy
    exact ⟨⟨by dsimp only;omega,by dsimp only;omega⟩,this.2⟩
   ·rw [List.pairwise_map]
    exact hs.imp fun h=>by dsimp only;omega
  ·intro h
   have:=congrArg List.length h
   have:=kh (zz (Z.length:Int))
   simp only [bj,List.length_append,ax,List.length_nil] at *
   omega
theorem tG:∀ {L:BL} {i:Nat} {sp:Bool} {x:fU},x∈dE i sp L→i≤x.1∧x.1<i+L.length∧∃p∈L,p.1=x.2
 | [],i,sp,x,h=>by simp [dE] at h
 | p::L,i,sp,x,h=>by
  rw [dE] at h
  rcases List.mem_append.1 h with h|h
  ·split at h
   ·simp at h
   ·simp only [List.mem_singleton] at h
    subst h
    exact ⟨Nat.le_refl _,ae,p,ae,rfl⟩
  ·obtain ⟨h1,h2,q,hq,h3⟩:=tG h
   exact ⟨aa,by simp;omega,q,by simp [hq],h3⟩
theorem F9:∀(L:BL) (i:Nat) (sp:Bool),(dE i sp L).Pairwise fun x y=>x.1<y.1
 | [],i,sp=>List.Pairwise.nil
 | p::L,i,sp=>by
  rw [dE]
  refine List.pairwise_append.2 ⟨by split<;>simp,F9 L _ _,fun x hx y hy=>?_⟩
  have:=(tG hy).1
  split at hx
  ·simp at hx
  ·simp only [List.mem_singleton] at hx
   subst hx
   dsimp only
   omega
theorem Ga:∀(L:BL) (i:Nat) (sp:Bool),(∀p∈L,p.2≠[])→(dE i sp L).length≤(fq L).length∧(sp=false→L≠[]→(dE i sp L).length+1≤(fq L).length)∧L.length≤(fq L).length
 | [],i,sp,_=>by simp [dE,fq]
 | p::L,i,sp,h=>by
  obtain ⟨h1,_,h3⟩:=Ga L (i+1) (af p.2) fun q hq=>h q (by simp [hq])
  have h2:1≤p.2.length:=by
   have:=h p ae
   cases hp:p.2 with
   | nil=>exact absurd hp this
   | cons c r=>simp
  rw [xd,dE]
  simp only [List.length_append,List.length_cons]
  refine ⟨?_,fun hsp _=>?_,aa⟩
  ·split<;>simp<;>omega
  ·split
   ·simp;omega
   ·rename_i hne
    subst hsp
    have:p.1.length≠0:=fun e=>hne (by rw [List.eq_nil_of_length_eq_zero e];rfl)
    simp
    omega
theorem K9 {t:Tok} {v:ah} (hv:gm v) (h:t∈fC v):∃c r,t=c::r∧aY c=false:=by
 induction hv with
 | num h1 =>
  rw [K8] at h
  simp only [List.mem_singleton] at h
  subst h
  obtain ⟨c,r,hc,h2,_⟩:=RX _
  exact ⟨c,r,hc,h2⟩
 | ia x =>
  rw [D7] at h
  simp only [List.mem_singleton] at h
  subst h
  exact ⟨34,_,rfl,ag⟩
 | CG h1 ih =>
  rw [D8] at h
  rcases List.mem_cons.1 h with rfl|h
  ·exact ⟨91,[],rfl,ag⟩
  ·rcases List.mem_append.1 h with h|h
   ·unfold fS kt at h
    obtain ⟨p,hp,h⟩:=List.mem_flatMap.1 h
    rcases List.mem_append.1 h with h|h
    ·split at h
     ·simp at h
     ·simp only [List.mem_singleton] at h
      subst h
      exact ⟨44,[],rfl,ag⟩
    ·rw [if_neg (show ¬((3:Int)=4) by decide),List.nil_append] at h
     refine ih p.1 ?_ h
     obtain ⟨i,hi⟩:=List.mem_iff_getElem?.1 hp
     rw [List.getElem?_zipIdx] at hi
     obtain ⟨x,hx,rfl⟩:=Option.map_eq_some_iff.1 hi
     exact List.mem_of_getElem? hx
   ·simp only [List.mem_singleton] at h
    subst h
    exact ⟨93,[],rfl,ag⟩
 | Dk hs hl h1 ih =>
  rw [D9] at h
  rcases List.mem_cons.1 h with rfl|h
  ·exact ⟨123,[],rfl,ag⟩
  ·rcases List.mem_append.1 h with h|h
   ·unfold fS kt at h
    obtain ⟨p,hp,h⟩:=List.mem_flatMap.1 h
    obtain ⟨i,hi⟩:=List.mem_iff_getElem?.1 hp
    rw [List.getElem?_zipIdx] at hi
    obtain ⟨x,hx,rfl⟩:=Option.map_eq_some_iff.1 hi
    rcases List.mem_append.1 h with h|h
    ·split at h
     ·simp at h
     ·simp only [List.mem_singleton] at h
      subst h
      exact ⟨44,[],rfl,ag⟩
    ·rw [if_pos (by simp only [ah.kind])] at h
     rcases List.mem_append.1 h with h|h
     ·rcases List.mem_cons.1 h with rfl|h
      ·have hlt:=(List.getElem?_eq_some_iff.1 hx).1
       simp only [ah.parts,ah.names,Nat.zero_add] at hlt ⊢
       rw [←hl] at hlt
       rw [List.getD,List.getElem?_eq_getElem hlt,Option.getD_some]
       obtain ⟨c,r,hc,h2,_⟩:=CJ (hs _ (List.getElem_mem hlt))
       exact ⟨c,r,hc,IY aa⟩
      ·simp only [List.mem_singleton] at h
       subst h
       exact ⟨58,[],rfl,ag⟩
     ·exact ih x (List.mem_of_getElem? hx) h
   ·simp only [List.mem_singleton] at h
    subst h
    exact ⟨125,[],rfl,ag⟩
theorem Fit.ne {l:List UInt8} {v:ah} {L:BL} {lb:List UInt8} (h:Fit l v L lb):∀p∈L,p.2≠[]:=by
 intro p hp
 obtain ⟨c,r,hc,_⟩:=K9 h.wf (t:=p.2) (by rw [←h.tk];exact List.mem_map.2 ⟨p,hp,rfl⟩)
 rw [hc]
 simp
theorem K7 (v:ah):fC v≠[]:=by
 rw [vK]
 split
 ·simp
 ·split<;>simp
theorem Fit.To {l:List UInt8} {v:ah} {L:BL} {lb:List UInt8} (h:Fit l v L lb):L≠[]:=by
 rintro rfl
 exact K7 v h.tk.symm
theorem Fit.bounds {l:List UInt8} {v:ah} {L:BL} {lb:List UInt8} (h:Fit l v L lb) (hl:l.length≤1000):(kg L lb).length≤1000∧L.length≤1000∧(∀x∈kg L lb,(x.1≤2000∧x.2.length≤1000)∧vZ x.2)∧(kg L lb).Pairwise fun x y=>x.1<y.1:=by
 obtain ⟨h1,h2,h3⟩:=Ga L 0 false h.ne
 have h2:=h2 rfl h.To
 have hlen:=congrArg List.length h.eq
 rw [List.length_append] at hlen
 refine ⟨?_,aa,?_,?_⟩
 ·rw [List.length_append]
  split<;>simp<;>omega
 ·intro x hx
  rcases List.mem_append.1 hx with hx|hx
  ·obtain ⟨q1,q2,p,hp,q3⟩:=tG hx
   refine ⟨⟨aa,?_⟩,by rw [←q3];exact h.bk p hp⟩
   rw [←q3]
   have:p.1.length≤(fq L).length:=by
    obtain ⟨A,B,PM⟩:=List.append_of_mem hp
    rw [PM,GL,xd]
    simp only [List.length_append]
    omega
   omega
  ·split at hx
   ·simp at hx
   ·simp only [List.mem_singleton] at hx
    subst hx
    exact ⟨⟨by dsimp only;omega,by dsimp only;omega⟩,h.bl⟩
 ·refine List.pairwise_append.2 ⟨F9 L 0 false,by split<;>simp,fun x hx y hy=>?_⟩
  have:=(tG hx).2.1
  split at hy
  ·simp at hy
  ·simp only [List.mem_singleton] at hy
   subst hy
   dsimp only
   omega
theorem GW (Z:List fU):∀(L:BL) (E:List fU) (i:Nat) (ls:Tok) (out:List UInt8),(∀p∈L,p.2≠[])→(∀x∈E,i+L.length≤x.1)→(∀j,i≤j→iM Z j=iM (dE i (af ls) L++E) j) →
  ∃yn,(L.map Prod.snd).foldl (sK Z) ⟨out,i,ls⟩=⟨out++fq L,i+L.length,yn⟩∧∀j,i+L.length≤j→iM Z j=iM E j
 | [],E,i,ls,out,_,_,h=>⟨ls,by simp [fq],fun j hj=>by rw [h j hj];rfl⟩
 | p::L,E,i,ls,out,hne,hE,h=>by
  have iH:iM (dE (i+1) (af p.2) L++E) i=none:=by
   unfold iM
   rw [List.find?_eq_none.2]
   ·rfl
   ·intro x hx
    simp only [decide_eq_true_eq]
    rcases List.mem_append.1 hx with hx|hx
    ·have:=(tG hx).1;omega
    ·have:=hE x hx
     simp only [List.length_cons] at this
     omega
  have Rm:sK Z ⟨out,i,ls⟩ p.2=⟨out++(p.1++p.2),i+1,p.2⟩:=by
   unfold sK
   have h0:=h i (Nat.le_refl _)
   rw [dE] at h0
   by_cases he:p.1=sS (af ls)
   ·rw [if_pos he,List.nil_append,iH] at h0
    simp only [h0]
    rw [if_neg (hne p ae),←he,List.append_assoc]
   ·rw [if_neg he] at h0
    have:iM ([(i,p.1)]++dE (i+1) (af p.2) L++E) i=some p.1:=by simp [iM]
    rw [this] at h0
    simp only [h0,List.append_assoc]
  have hnext:∀j,i+1≤j→iM Z j=iM (dE (i+1) (af p.2) L++E) j:=by
   intro j hj
   rw [h j aa,dE]
   split
   ·rfl
   ·unfold iM
    rw [List.append_assoc,List.singleton_append,List.find?_cons_of_neg]
    simp only [decide_eq_true_eq]
    omega
  obtain ⟨yn,h1,h2⟩:=GW Z L E (i+1) p.2 (out++(p.1++p.2)) (fun q hq=>hne q (by simp [hq])) (fun x hx=>by have:=hE x hx;simp only [List.length_cons] at this;omega) hnext
  refine ⟨yn,?_,fun j hj=>h2 j (by simp only [List.length_cons] at hj;omega)⟩
  rw [List.map_cons,List.foldl_cons,Rm,h1,xd,List.length_cons,show i+1+L.length=i+(L.length+1) by omega]
  simp [List.append_assoc]
theorem Fit.out {l:List UInt8} {v:ah} {L:BL} {lb:List UInt8} (h:Fit l v L lb):vL v (kg L lb)=l:=by
 unfold vL
 rw [←h.tk]
 obtain ⟨yn,h1,h2⟩:=GW (kg L lb) L (if lb=[10] then [] else [(L.length,lb)]) 0 [] [] h.ne (fun x hx=>by
  split at hx
  ·simp at hx
  ·simp only [List.mem_singleton] at hx
   subst hx
   dsimp only
   omega) (fun j _=>rfl)
 rw [h1]
 unfold sK
 simp only [Nat.zero_add,List.nil_append,List.append_nil] at h2 ⊢
 rw [h2 _ (Nat.le_refl _),h.eq]
 by_cases hb:lb=[10]
 ·rw [if_pos hb]
  simp [iM,hb]
 ·rw [if_neg hb]
  simp [iM]
theorem Ld {l:List UInt8} {v:ah} {r:List UInt8} (h:fi l=some (v,r)):∃L lb,Fit l v L lb∧r=l7 (kg L lb)∧(bC v).1=0:=by
 unfold fi at h
 split at h
 ·cases h
 ·rename_i v' o hr
  split at h
  ·rename_i hv
   cases h
   obtain ⟨L,lb,h1,rfl⟩:=Lb hr
   exact ⟨L,lb,h1,rfl,hv⟩
  ·cases h
theorem W6 {l:List UInt8} {v:ah} {r:List UInt8} (hl:l.length≤1000) (h:fi l=some (v,r)):zu v r=some l∧∃Z,vM r=some Z∧(Z=[]↔r=[])∧Z.length≤1000∧r.length≤100000000:=by
 obtain ⟨L,lb,h1,rfl,hv⟩:=Ld h
 obtain ⟨q1,q2,q3,q4⟩:=h1.bounds hl
 have aL:=W4 q1 (fun x hx=>by have:=q3 x hx;exact ⟨⟨this.1.1,aa⟩,this.2⟩) q4
 refine ⟨?_,_,aL,?_,q1,?_⟩
 ·unfold zu
  rw [aL]
  simp only
  rw [h1.out,if_pos ⟨hl,h⟩]
 ·constructor
  ·intro e;rw [e];rfl
  ·intro e
   rw [e] at aL
   exact (Option.some.inj aL).symm
 ·unfold l7
  split
  ·simp
  ·have hm:=ov (f:=dM) (m:=2000) (l:=kg L lb) aa (fun x hx=>by
    have:=(q3 x hx).1
    have a1:=cD (n:=(x.1:Int)) aa aa
    have a2:=qj (b:=x.2) aa
    simp only [dM,List.length_append]
    omega)
   have:(kg L lb).length*2000≤1000*2000:=Nat.mul_le_mul_right _ q1
   omega
abbrev e9 (t:List Tok):Nat:=(t.map List.length).sum
theorem Cy (a b:List Tok):e9 (a++b)=e9 a+e9 b:=by simp [e9]
theorem IH {v:ah} (hv:gm v):1≤e9 (fC v):=by
 cases h:fC v with
 | nil=>exact absurd h (K7 v)
 | cons t r =>
  obtain ⟨c,x,hc,_⟩:=K9 hv (t:=t) (by rw [h];simp)
  simp [e9,hc]
  omega
theorem Cz (k:Int) (s:List (List UInt8)):∀(ps:List ah) (i:Nat),(∀p∈ps,gm p)→ps.length≤e9 (ni k s i ps)∧∀p∈ps,e9 (fC p)≤e9 (ni k s i ps)
 | [],i,_=>by simp
 | p::ps,i,h=>by
  obtain ⟨h1,h2⟩:=Cz k s ps (i+1) fun q hq=>h q (by simp [hq])
  have h3:=IH (h p ae)
  have h4:e9 (fC p)≤e9 (kt k s i p):=by
   unfold kt
   rw [Cy,Cy]
   omega
  rw [WY,Cy]
  refine ⟨by simp only [List.length_cons];omega,fun q hq=>?_⟩
  rcases List.mem_cons.1 hq with rfl|hq
  ·omega
  ·have:=h2 q hq
   omega
theorem XN {v:ah} (hv:gm v) {N:Nat} (h32:32≤N) (hN:e9 (fC v)≤N):VB N v:=by
 induction hv with
 | num h=>exact sQ h
 | ia b =>
  rw [D7] at hN
  refine qC ?_
  have:b.length≤(sw b).length:=by
   unfold sw
   clear hN
   induction b with
   | nil=>simp
   | cons c b ih =>
    obtain ⟨x,r,hx,_⟩:=Uo c
    rw [List.flatMap_cons,List.length_append,hx]
    simp only [List.length_cons]
    omega
  simp [e9,ow] at hN
  omega
 | @CG ps h ih =>
  rw [D8] at hN
  have e:e9 (oo 3::(fS 3 [] ps++[pg 3]))=1+e9 (ni 3 [] 0 ps)+1:=by simp [e9,fS,ni];omega
  rw [e] at hN
  obtain ⟨h1,h2⟩:=Cz 3 [] ps 0 h
  exact .mk (fL 3) (fL 0) (Nat.zero_le _) (Nat.zero_le _) ae (by simp only [ah.parts];omega) fun p hp=>ih p hp (by have:=h2 p hp;omega)
 | @Dk s ps hs hl h ih =>
  rw [D9] at hN
  have e:e9 (oo 4::(fS 4 s ps++[pg 4]))=1+e9 (ni 4 s 0 ps)+1:=by simp [e9,fS,ni];omega
  rw [e] at hN
  obtain ⟨h1,h2⟩:=Cz 4 s ps 0 h
  exact .mk (fL 4) (fL 0) (Nat.zero_le _) (by simp only [ah.names];omega) (fun x hx=>by have:=yr (hs x hx);omega) (by simp only [ah.parts];omega) fun p hp=>ih p hp (by have:=h2 p hp;omega)
theorem GM (L:BL):e9 (L.map Prod.snd)≤(fq L).length:=by
 induction L with
 | nil=>exact Nat.le_refl _
 | cons p L ih =>
  rw [xd]
  simp only [e9,List.map_cons,List.sum_cons,List.length_append] at ih ⊢
  omega
theorem Fit.vb {l:List UInt8} {v:ah} {L:BL} {lb:List UInt8} (h:Fit l v L lb) (hl:l.length≤1048576):VB 1048576 v:=by
 refine XN h.wf ag ?_
 have h1:=GM L
 have h2:=congrArg List.length h.eq
 rw [List.length_append] at h2
 rw [←h.tk]
 omega
theorem W7 {b:List UInt8} {v:ah} {r:List UInt8} (hl:b.length≤1000) (h:fi b=some (v,r)):VB 1048576 v∧(bC v).1=0∧(W5 v).isSome=true∧zu v r=some b∧r.length≤100000000∧∃ls,Lc r=some ls∧ls.length≤4∧(ls=[]↔r=[]):=by
 obtain ⟨L,lb,h1,rfl,hv⟩:=Ld h
 obtain ⟨cr,Z,hZ,PZ,YR,hr⟩:=W6 hl h
 refine ⟨h1.vb aa,hv,rfl,cr,hr,_,by unfold Lc;rw [hZ],?_,?_⟩
 ·split<;>simp
 ·rw [←PZ]
  constructor
  ·intro e
   split at e
   ·rename_i h0
    exact List.eq_nil_of_length_eq_zero h0
   ·cases e
  ·intro e
   rw [e]
   rfl
def bT (c:Nat):Prop:=c<55296∨(57343<c∧c<1114112)
instance (c:Nat):Decidable (bT c):=by unfold bT;infer_instance
def aM (c:Nat):List UInt8 :=
 if c<128 then [UInt8.ofNat c] else if c<2048 then [UInt8.ofNat (192+c / 64),UInt8.ofNat (128+c%64)]
 else if c<65536 then [UInt8.ofNat (224+c / 4096),UInt8.ofNat (128+c / 64%64),UInt8.ofNat (128+c%64)]
 else [UInt8.ofNat (240+c / 262144),UInt8.ofNat (128+c / 4096%64),UInt8.ofNat (128+c / 64%64),UInt8.ofNat (128+c%64)]
def fE (c:Nat):Nat:=if c<128 then 1 else if c<2048 then 2 else if c<65536 then 3 else 4
theorem qA (c:Nat):(aM c).length=fE c:=by
 unfold aM fE
 split
 ·rfl
 ·split
  ·rfl
  ·split<;>rfl
theorem kv (c:Nat):1≤fE c∧fE c≤4:=by
 unfold fE
 split
 ·omega
 ·split
  ·omega
  ·split<;>omega
def eF (a:Nat):Nat:=if a<128 then 1 else if a<192 then 0 else if a<224 then 2 else if a<240 then 3 else 4
def il (a:Nat):Nat:=if a<128 then a else if a<192 then 0 else if a<224 then a - 192 else if a<240 then a - 224 else a - 240
def qR (l:List UInt8) (c0:Nat):Nat→Nat
 | 0=>c0
 | k+1=>64*qR l c0 k+(at8 l (k+1) - 128)
theorem EJ (l:List UInt8) (c:Nat):qR l c 0=c:=rfl
theorem zV (l:List UInt8) (c:Nat):qR l c 1=64*c+(at8 l 1 - 128):=rfl
theorem zW (l:List UInt8) (c:Nat):qR l c 2=64*(64*c+(at8 l 1 - 128))+(at8 l 2 - 128):=rfl
theorem zX (l:List UInt8) (c:Nat):qR l c 3=64*(64*(64*c+(at8 l 1 - 128))+(at8 l 2 - 128))+(at8 l 3 - 128):=rfl
abbrev ep (l:List UInt8) (i:Nat):Prop:=128≤at8 l i∧at8 l i<192
structure sW (l:List UInt8) (c n:Nat):Prop where
 pos:0<n
 le:n≤l.length
 tl:∀j,j<n→0<j→ep l j
 ch:bT c
 sh:fE c=n
instance (l:List UInt8) (c n:Nat):Decidable (sW l c n):=decidable_of_iff (0<n∧n≤l.length∧(∀j,j<n→0<j→ep l j)∧bT c∧fE c=n) ⟨fun ⟨a,b,c,d,e⟩=>⟨a,b,c,d,e⟩,fun ⟨a,b,c,d,e⟩=>⟨a,b,c,d,e⟩⟩
def fP (l:List UInt8):Nat:=qR l (il (at8 l 0)) (eF (at8 l 0) - 1)
def jW (l:List UInt8):Option (Nat×Nat):=if sW l (fP l) (eF (at8 l 0)) then some (fP l,eF (at8 l 0)) else none
theorem jb {a:UInt8} {n:Nat} (h:n=a.toNat):UInt8.ofNat n=a:=by rw [h];exact UInt8.ofNat_toNat
theorem q8 {α:Type} {l:List α} (h:1≤l.length):∃a r,l=a::r:=by
 cases l with
 | nil=>simp at h
 | cons a r=>exact ⟨a,r,rfl⟩
theorem qY {l:List UInt8} {c n:Nat} (h:jW l=some (c,n)):bT c∧fE c=n∧n≤l.length∧l.take n=aM c:=by
 unfold jW at h
 split at h
 rotate_left
 ·cases h
 rename_i hk
 simp only [Option.some.injEq,Prod.mk.injEq] at h
 obtain ⟨h1,h2⟩:=h
 rw [h1,h2] at hk
 obtain ⟨p0,p1,p2,p3,p4⟩:=hk
 refine ⟨p3,p4,p1,?_⟩
 unfold fP at h1
 rw [h2] at h1
 unfold fE at p4
 match l,p1 with
 | [],p1=>rw [List.length_nil] at p1;omega
 | a::r,p1 =>
  have ha:=a.toNat_lt
  have e0:at8 (a::r) 0=a.toNat:=rfl
  rw [e0] at h1 h2
  have hn:n=1∨n=2∨n=3∨n=4:=by unfold eF at h2;split at h2<;>(try split at h2)<;>(try split at h2)<;>(try split at h2)<;>omega
  rcases hn with rfl|rfl|rfl|rfl
  ·rw [EJ] at h1
   unfold eF at h2
   unfold il at h1
   unfold aM
   have:a.toNat<128:=by
    split at h2
    ·assumption
    ·split at h2
     ·omega
     ·split at h2
      ·omega
      ·split at h2<;>omega
   rw [if_pos this] at h1
   rw [if_pos aa]
   show [a]=_
   rw [jb h1.symm]
  ·obtain ⟨b,r,rfl⟩:=q8 (show 1≤r.length by rw [List.length_cons] at p1;omega)
   ·have hb:=b.toNat_lt
    obtain ⟨t1,t2⟩:=p2 1 ag ag
    have e1:at8 (a::b::r) 1=b.toNat:=rfl
    rw [e1] at t1 t2
    rw [show 2 - 1=1 from rfl,zV,e1] at h1
    have hh:192≤a.toNat∧a.toNat<224:=by
     unfold eF at h2
     split at h2
     ·omega
     ·split at h2
      ·omega
      ·split at h2
       ·omega
       ·split at h2<;>omega
    unfold il at h1
    rw [if_neg aa,if_neg aa,if_pos aa] at h1
    have hc:128≤c∧c<2048:=by
     split at p4
     ·omega
     ·split at p4
      ·omega
      ·split at p4<;>omega
    unfold aM
    rw [if_neg aa,if_pos aa,jb (a:=a) aa,jb (a:=b) aa]
    rfl
  ·obtain ⟨b,r,rfl⟩:=q8 (show 1≤r.length by rw [List.length_cons] at p1;omega)
   obtain ⟨d,r,rfl⟩:=q8 (show 1≤r.length by rw [List.length_cons,List.length_cons] at p1;omega)
   ·have hb:=b.toNat_lt
    obtain ⟨t1,t2⟩:=p2 1 ag ag
    obtain ⟨t3,t4⟩:=p2 2 ag ag
    have e1:at8 (a::b::d::r) 1=b.toNat:=rfl
    have e2:at8 (a::b::d::r) 2=d.toNat:=rfl
    rw [e1] at t1 t2
    rw [e2] at t3 t4
    rw [show 3 - 1=2 from rfl,zW,e1,e2] at h1
    have hh:224≤a.toNat∧a.toNat<240:=by
     unfold eF at h2
     split at h2
     ·omega
     ·split at h2
      ·omega
      ·split at h2
       ·omega
       ·split at h2<;>omega
    unfold il at h1
    rw [if_neg aa,if_neg aa,if_neg aa,if_pos aa] at h1
    have hc:2048≤c∧c<65536:=by
     split at p4
     ·omega
     ·split at p4
      ·omega
      ·split at p4<;>omega
    unfold aM
    rw [if_neg aa,if_neg aa,if_pos aa,jb (a:=a) aa,jb (a:=b) aa,jb (a:=d) aa]
    rfl
  ·obtain ⟨b,r,rfl⟩:=q8 (show 1≤r.length by rw [List.length_cons] at p1;omega)
   obtain ⟨d,r,rfl⟩:=q8 (show 1≤r.length by rw [List.length_cons,List.length_cons] at p1;omega)
   obtain ⟨e,r,rfl⟩:=q8 (show 1≤r.length by rw [List.length_cons,List.length_cons,List.length_cons] at p1;omega)
   ·obtain ⟨t1,t2⟩:=p2 1 ag ag
    obtain ⟨t3,t4⟩:=p2 2 ag ag
    obtain ⟨t5,t6⟩:=p2 3 ag ag
    have e1:at8 (a::b::d::e::r) 1=b.toNat:=rfl
    have e2:at8 (a::b::d::e::r) 2=d.toNat:=rfl
    have e3:at8 (a::b::d::e::r) 3=e.toNat:=rfl
    rw [e1] at t1 t2
    rw [e2] at t3 t4
    rw [e3] at t5 t6
    rw [show 4 - 1=3 from rfl,zX,e1,e2,e3] at h1
    have hh:240≤a.toNat:=by
     unfold eF at h2
     split at h2
     ·omega
     ·split at h2
      ·omega
      ·split at h2
       ·omega
       ·split at h2<;>omega
    unfold il at h1
    rw [if_neg aa,if_neg aa,if_neg aa,if_neg aa] at h1
    have hc:65536≤c:=by
     split at p4
     ·omega
     ·split at p4
      ·omega
      ·split at p4<;>omega
    unfold bT at p3
    unfold aM
    rw [if_neg aa,if_neg aa,if_neg aa,jb (a:=a) aa,jb (a:=b) aa,jb (a:=d) aa,jb (a:=e) aa]
    rfl
theorem Am {c:Nat} (r:List UInt8) (h:bT c):jW (aM c++r)=some (c,fE c):=by
 have key:fP (aM c++r)=c∧eF (at8 (aM c++r) 0)=fE c∧∀j,j<fE c→0<j→ep (aM c++r) j:=by
  unfold bT at h
  unfold aM fE fP
  split
  ·rename_i h1
   have e0:at8 ([UInt8.ofNat c]++r) 0=c:=bW aa
   have w:eF c=1:=by unfold eF;rw [if_pos h1]
   rw [e0,w]
   refine ⟨?_,rfl,fun j hj eM=>by omega⟩
   rw [show 1 - 1=0 from rfl,EJ]
   unfold il
   rw [if_pos h1]
  ·split
   ·rename_i h1 h2
    have e0:at8 ([UInt8.ofNat (192+c / 64),UInt8.ofNat (128+c%64)]++r) 0=192+c / 64:=bW aa
    have e1:at8 ([UInt8.ofNat (192+c / 64),UInt8.ofNat (128+c%64)]++r) 1=128+c%64:=bW aa
    have w:eF (192+c / 64)=2:=by unfold eF;rw [if_neg aa,if_neg aa,if_pos aa]
    rw [e0,w]
    refine ⟨?_,rfl,fun j hj eM=>?_⟩
    ·rw [show 2 - 1=1 from rfl,zV,e1]
     unfold il
     rw [if_neg aa,if_neg aa,if_pos aa]
     omega
    ·obtain rfl:j=1:=aa
     unfold ep
     rw [e1]
     omega
   ·split
    ·rename_i h1 h2 h3
     have e0:at8 ([UInt8.ofNat (224+c / 4096),UInt8.ofNat (128+c / 64%64),UInt8.ofNat (128+c%64)]++r) 0=224+c / 4096:=bW aa
     have e1:at8 ([UInt8.ofNat (224+c / 4096),UInt8.ofNat (128+c / 64%64),UInt8.ofNat (128+c%64)]++r) 1=128+c / 64%64:=bW aa
     have e2:at8 ([UInt8.ofNat (224+c / 4096),UInt8.ofNat (128+c / 64%64),UInt8.ofNat (128+c%64)]++r) 2=128+c%64:=bW aa
     have w:eF (224+c / 4096)=3:=by unfold eF;rw [if_neg aa,if_neg aa,if_neg aa,if_pos aa]
     rw [e0,w]
     refine ⟨?_,rfl,fun j hj eM=>?_⟩
     ·rw [show 3 - 1=2 from rfl,zW,e1,e2]
      unfold il
      rw [if_neg aa,if_neg aa,if_neg aa,if_pos aa]
      omega
     ·obtain rfl|rfl:j=1∨j=2:=aa
      ·unfold ep;rw [e1];omega
      ·unfold ep;rw [e2];omega
    ·rename_i h1 h2 h3
     have e0:at8 ([UInt8.ofNat (240+c / 262144),UInt8.ofNat (128+c / 4096%64),UInt8.ofNat (128+c / 64%64),UInt8.ofNat (128+c%64)]++r) 0=240+c / 262144:=bW aa
     have e1:at8 ([UInt8.ofNat (240+c / 262144),UInt8.ofNat (128+c / 4096%64),UInt8.ofNat (128+c / 64%64),UInt8.ofNat (128+c%64)]++r) 1=128+c / 4096%64:=bW aa
     have e2:at8 ([UInt8.ofNat (240+c / 262144),UInt8.ofNat (128+c / 4096%64),UInt8.ofNat (128+c / 64%64),UInt8.ofNat (128+c%64)]++r) 2=128+c / 64%64:=bW aa
     have e3:at8 ([UInt8.ofNat (240+c / 262144),UInt8.ofNat (128+c / 4096%64),UInt8.ofNat (128+c / 64%64),UInt8.ofNat (128+c%64)]++r) 3=128+c%64:=bW aa
     have w:eF (240+c / 262144)=4:=by unfold eF;rw [if_neg aa,if_neg aa,if_neg aa,if_neg aa]
     rw [e0,w]
     refine ⟨?_,rfl,fun j hj eM=>?_⟩
     ·rw [show 4 - 1=3 from rfl,zX,e1,e2,e3]
      unfold il
      rw [if_neg aa,if_neg aa,if_neg aa,if_neg aa]
      omega
     ·obtain rfl|rfl|rfl:j=1∨j=2∨j=3:=aa
      ·unfold ep;rw [e1];omega
      ·unfold ep;rw [e2];omega
      ·unfold ep;rw [e3];omega
 obtain ⟨k1,k2,k3⟩:=key
 unfold jW
 rw [k1,k2,if_pos ⟨by have:=kv c;omega,by rw [List.length_append,qA];omega,k3,h,rfl⟩]
def nH:Nat→List UInt8→Option (List Nat)
 | 0,l=>if l=[] then some [] else none
 | k+1,l=>if l=[] then some [] else match jW l with
  | none=>none
  | some (c,n)=>(nH k (l.drop n)).map (c::·)
def chars (l:List UInt8):Option (List Nat):=nH l.length l
theorem Fb:∀(n m:Nat) (l:List UInt8),l.length≤n→l.length≤m→nH n l=nH m l
 | 0,m,l,h1,h2=>by
  have:l=[]:=List.eq_nil_of_length_eq_zero aa
  subst this
  cases m<;>simp [nH]
 | n+1,0,l,h1,h2=>by
  have:l=[]:=List.eq_nil_of_length_eq_zero aa
  subst this
  simp [nH]
 | n+1,m+1,l,h1,h2=>by
  simp only [nH]
  split
  ·rfl
  ·split
   ·rfl
   ·rename_i c k hk
    obtain ⟨_,q1,q2,_⟩:=qY hk
    have:=kv c
    rw [Fb n m _ (by rw [List.length_drop];omega) (by rw [List.length_drop];omega)]
theorem Fc:chars []=some []:=rfl
theorem wE {l:List UInt8} (h:l≠[]):chars l=match jW l with
  | none=>none
  | some (c,n)=>(chars (l.drop n)).map (c::·):=by
 have hp:=List.length_pos_iff.2 h
 unfold chars
 obtain ⟨k,hk⟩:∃k,l.length=k+1:=⟨l.length - 1,aa⟩
 rw [hk,nH,if_neg h]
 split
 ·rfl
 ·rename_i c n e
  obtain ⟨_,q1,q2,_⟩:=qY e
  have:=kv c
  rw [Fb k (l.drop n).length _ (by rw [List.length_drop];omega) (Nat.le_refl _)]
theorem wD:∀(cs:List Nat),(∀c∈cs,bT c)→chars (cs.flatMap aM)=some cs
 | [],_=>rfl
 | c::cs,h=>by
  have hc:=qA c
  have:=kv c
  rw [List.flatMap_cons,wE,Am _ (h c ae)]
  ·simp only
   rw [List.drop_left' hc,wD cs fun x hx=>h x (by simp [hx])]
   rfl
  ·intro e
   have:=congrArg List.length e
   rw [List.length_append,hc,List.length_nil] at this
   omega
theorem Fe:∀(n:Nat) {l:List UInt8} {cs:List Nat},l.length≤n→chars l=some cs→(∀c∈cs,bT c)∧cs.flatMap aM=l
 | 0,l,cs,hl,h=>by
  have:l=[]:=List.eq_nil_of_length_eq_zero aa
  subst this
  cases h
  simp
 | n+1,l,cs,hl,h=>by
  by_cases hn:l=[]
  ·subst hn;cases h;simp
  rw [wE hn] at h
  split at h
  ·cases h
  ·rename_i c k e
   obtain ⟨q1,q2,q3,q4⟩:=qY e
   have:=kv c
   cases hr:chars (l.drop k) with
   | none=>rw [hr] at h;cases h
   | some r =>
    rw [hr] at h
    cases h
    obtain ⟨a1,a2⟩:=Fe n (by rw [List.length_drop];omega) hr
    refine ⟨fun x hx=>?_,?_⟩
    ·rcases List.mem_cons.1 hx with rfl|hx
     ·exact q1
     ·exact a1 x hx
    ·rw [List.flatMap_cons,a2,←q4,List.take_append_drop]
theorem Ao {l:List UInt8} {cs:List Nat}:chars l=some cs↔(∀c∈cs,bT c)∧cs.flatMap aM=l:=by
 constructor
 ·exact Fe _ (Nat.le_refl _)
 ·rintro ⟨h1,h2⟩
  rw [←h2]
  exact wD cs h1
def cP (c:Nat):List Nat:=if c<65536 then [c] else [55296+(c - 65536) / 1024,56320+(c - 65536)%1024]
abbrev eP (u:Nat):Prop:=56320≤u∧u<57344
abbrev eO (u:Nat):Prop:=55296≤u∧u<56320
def cI:List Nat→Option (List Nat)
 | []=>some []
 | [u]=>if eP u then none else if eO u then none else some [u]
 | u::v::r=>if eP u then none else if eO u then (if eP v then (cI r).map ((65536+1024*(u - 55296)+(v - 56320))::·) else none) else (cI (v::r)).map (u::·)
theorem El {u:Nat} (h:eP u) (r:List Nat):cI (u::r)=none:=by
 cases r<;>simp only [cI]<;>rw [if_pos h]
theorem En {u v:Nat} (h:eO u) (hv:eP v) (r:List Nat):cI (u::v::r)=(cI r).map ((65536+1024*(u - 55296)+(v - 56320))::·):=by
 rw [cI,if_neg (by unfold eP eO at *;omega),if_pos h,if_pos hv]
theorem vO {u:Nat} (h:eO u) (r:List Nat) (hr:∀v k,r=v::k→¬eP v):cI (u::r)=none:=by
 have h1:¬eP u:=by unfold eP eO at *;omega
 cases r with
 | nil=>simp only [cI];rw [if_neg h1,if_pos h]
 | cons v r=>simp only [cI];rw [if_neg h1,if_pos h,if_neg (hr v r rfl)]
theorem Em {u:Nat} (h1:¬eP u) (h2:¬eO u) (r:List Nat):cI (u::r)=(cI r).map (u::·):=by
 cases r with
 | nil=>simp only [cI];rw [if_neg h1,if_neg h2];rfl
 | cons v r=>simp only [cI];rw [if_neg h1,if_neg h2]
theorem Eo:∀(n:Nat) {us cs:List Nat},us.length≤n→(∀u∈us,u<65536)→cI us=some cs→(∀c∈cs,bT c)∧cs.flatMap cP=us
 | 0,us,cs,hn,hu,h=>by
  have:us=[]:=List.eq_nil_of_length_eq_zero aa
  subst this
  cases h
  simp
 | n+1,[],cs,hn,hu,h=>by cases h;simp
 | n+1,u::r,cs,hn,hu,h=>by
  have kS:=hu u ae
  have hur:∀x∈r,x<65536:=fun x hx=>hu x (by simp [hx])
  by_cases h1:eP u
  ·rw [El h1] at h;cases h
  by_cases h2:eO u
  ·match r,h with
   | [],h=>rw [vO h2 [] ae] at h;cases h
   | v::r,h =>
    by_cases h3:eP v
    rotate_left
    ·rw [vO h2 (v::r) (fun a k e=>by cases e;exact h3)] at h;cases h
    rw [En h2 h3] at h
    cases hr:cI r with
    | none=>rw [hr] at h;cases h
    | some k =>
     rw [hr] at h
     cases h
     obtain ⟨a1,a2⟩:=Eo n (by simp only [List.length_cons] at hn;omega) (fun x hx=>hur x (by simp [hx])) hr
     unfold eP eO at *
     obtain ⟨c,hc⟩:∃c,c=65536+1024*(u - 55296)+(v - 56320):=⟨_,rfl⟩
     rw [←hc]
     refine ⟨fun x hx=>?_,?_⟩
     ·rcases List.mem_cons.1 hx with hx|hx
      ·rw [hx];unfold bT;omega
      ·exact a1 x hx
     ·rw [List.flatMap_cons,a2]
      unfold cP
      rw [if_neg aa,show 55296+(c - 65536) / 1024=u by omega,show 56320+(c - 65536)%1024=v by omega]
      rfl
  ·rw [Em h1 h2] at h
   cases hr:cI r with
   | none=>rw [hr] at h;cases h
   | some k =>
    rw [hr] at h
    cases h
    obtain ⟨a1,a2⟩:=Eo n (by simp only [List.length_cons] at hn;omega) hur hr
    unfold eP eO at *
    refine ⟨fun x hx=>?_,?_⟩
    ·rcases List.mem_cons.1 hx with rfl|hx
     ·unfold bT;omega
     ·exact a1 x hx
    ·rw [List.flatMap_cons,a2]
     unfold cP
     rw [if_pos aa]
     rfl
def sN (big:Bool) (l:List UInt8) (k:Nat):Nat:=if big=true then 256*at8 l (2*k)+at8 l (2*k+1) else 256*at8 l (2*k+1)+at8 l (2*k)
def eS (big:Bool) (l:List UInt8):List Nat:=(List.range (l.length / 2)).map (sN big l)
theorem Lu (big:Bool) (l:List UInt8) (k:Nat):sN big l k<65536:=by
 have h1:at8 l (2*k)<256:=UInt8.toNat_lt _
 have h2:at8 l (2*k+1)<256:=UInt8.toNat_lt _
 unfold sN
 split<;>omega
def bz (big:Bool) (u:Nat):List UInt8:=if big=true then [UInt8.ofNat (u / 256),UInt8.ofNat (u%256)] else [UInt8.ofNat (u%256),UInt8.ofNat (u / 256)]
theorem np (big:Bool) (u:Nat):(bz big u).length=2:=by unfold bz;split<;>rfl
theorem Xw (big:Bool) (a b:UInt8) (l:List UInt8):eS big (a::b::l)=(if big=true then 256*a.toNat+b.toNat else 256*b.toNat+a.toNat)::eS big l:=by
 unfold eS
 rw [show (a::b::l).length / 2=l.length / 2+1 by simp only [List.length_cons];omega,List.range_succ_eq_map,List.map_cons,List.map_map]
 congr 1
theorem Lv (big:Bool):∀(n:Nat) {l:List UInt8},l.length=2*n→(eS big l).flatMap (bz big)=l
 | 0,l,h=>by
  have:l=[]:=List.eq_nil_of_length_eq_zero aa
  subst this
  rfl
 | n+1,[],h=>by simp only [List.length_nil] at h;omega
 | n+1,[_],h=>by simp only [List.length_cons,List.length_nil] at h;omega
 | n+1,a::b::l,h=>by
  have ha:=a.toNat_lt
  have hb:=b.toNat_lt
  rw [Xw,List.flatMap_cons,Lv big n (by simp only [List.length_cons] at h;omega)]
  cases big
  ·simp only [Bool.false_eq_true,if_false,bz]
   rw [jb (a:=a) aa,jb (a:=b) aa]
   rfl
  ·simp only [if_true,bz]
   rw [jb (a:=a) aa,jb (a:=b) aa]
   rfl
abbrev iO:List UInt8:=[239,187,191]
def gW (big:Bool) (b:List UInt8):Option (List Nat):=if 2≤b.length∧b.length%2=0∧b.take 2=(if big=true then [254,255] else [255,254]) then cI (eS big (b.drop 2)) else none
def xb (b:List UInt8):List Nat×Nat:=match chars b with
 | some cs=>if cs.head?=some 65279 then (cs.tail,1) else (cs,0)
 | none=>(b.map UInt8.toNat,4)
def fp (b:List UInt8):List Nat×Nat:=match gW true b with
 | some cs=>(cs,2)
 | none=>match gW false b with
  | some cs=>(cs,3)
  | none=>xb b
def gL (e:Nat) (cs:List Nat):Option (List UInt8) :=
 if e=0 then some (cs.flatMap aM) else if e=1 then some (iO++cs.flatMap aM)
 else if e=2 then some ([254,255]++(cs.flatMap cP).flatMap (bz true)) else if e=3 then some ([255,254]++(cs.flatMap cP).flatMap (bz false))
 else if ∀c∈cs,c<256 then some (cs.map UInt8.ofNat) else none
theorem Ln {big:Bool} {b:List UInt8} {cs:List Nat} (h:gW big b=some cs):(∀c∈cs,bT c)∧b=(if big=true then [254,255] else [255,254])++(cs.flatMap cP).flatMap (bz big):=by
 unfold gW at h
 by_cases hk:2≤b.length∧b.length%2=0∧b.take 2=(if big=true then [254,255] else [255,254])
 rotate_left
 ·rw [if_neg hk] at h
  cases h
 rw [if_pos hk] at h
 obtain ⟨h1,h2,h3⟩:=hk
 obtain ⟨a1,a2⟩:=Eo _ (Nat.le_refl _) (fun u hu=>by
  obtain ⟨k,_,rfl⟩:=List.mem_map.1 hu
  exact Lu _ _ _) h
 refine ⟨a1,?_⟩
 rw [a2,Lv big ((b.length - 2) / 2) (by rw [List.length_drop];omega),←h3,List.take_append_drop]
theorem GG (b:List UInt8):gL (fp b).2 (fp b).1=some b∧(fp b).2<5∧(∀c∈(fp b).1,bT c):=by
 unfold fp
 split
 ·rename_i cs h
  obtain ⟨h1,h2⟩:=Ln h
  refine ⟨?_,show _<5 by simp only;omega,h1⟩
  rw [h2]
  rfl
 ·split
  ·rename_i cs h
   obtain ⟨h1,h2⟩:=Ln h
   refine ⟨?_,show _<5 by simp only;omega,h1⟩
   rw [h2]
   rfl
  ·unfold xb
   split
   ·rename_i cs h
    obtain ⟨h1,h2⟩:=Ao.1 h
    split
    ·rename_i hh
     obtain ⟨cs,rfl⟩:∃r,cs=65279::r:=by
      cases cs with
      | nil=>cases hh
      | cons c r=>cases hh;exact ⟨r,rfl⟩
     refine ⟨?_,show _<5 by simp only;omega,fun c hc=>h1 c (by simp only [List.tail_cons] at hc;simp [hc])⟩
     rw [←h2]
     rfl
    ·refine ⟨?_,show _<5 by simp only;omega,h1⟩
     rw [←h2]
     rfl
   ·refine ⟨?_,show _<5 by simp only;omega,fun c hc=>?_⟩
    ·unfold gL
     rw [if_neg (show ¬(4=0) by decide),if_neg (show ¬(4=1) by decide),if_neg (show ¬(4=2) by decide),if_neg (show ¬(4=3) by decide),if_pos]
     ·rw [List.map_map]
      congr 1
      conv=>rhs;rw [←List.map_id b]
      refine List.map_congr_left fun x _=>?_
      exact UInt8.ofNat_toNat
     ·intro c hc
      obtain ⟨x,_,rfl⟩:=List.mem_map.1 hc
      exact x.toNat_lt
    ·obtain ⟨x,_,rfl⟩:=List.mem_map.1 hc
     have:=x.toNat_lt
     unfold bT
     omega
def lines:List Nat→List Nat×List Nat
 | []=>([],[])
 | [c]=>if c=10 then ([10],[0]) else if c=13 then ([10],[2]) else ([c],[])
 | c::d::r=>if c=13∧d=10 then (10::(lines r).1,1::(lines r).2)
  else if c=10 then (10::(lines (d::r)).1,0::(lines (d::r)).2) else if c=13 then (10::(lines (d::r)).1,2::(lines (d::r)).2) else (c::(lines (d::r)).1,(lines (d::r)).2)
theorem yj (r:List Nat):lines (13::10::r)=(10::(lines r).1,1::(lines r).2):=by simp only [lines];rw [if_pos ⟨trivial,trivial⟩]
theorem yk (r:List Nat):lines (10::r)=(10::(lines r).1,0::(lines r).2):=by
 cases r with
 | nil=>rfl
 | cons d r=>simp only [lines];rw [if_neg aa,if_pos trivial]
theorem uO {r:List Nat} (h:∀k,r≠10::k):lines (13::r)=(10::(lines r).1,2::(lines r).2):=by
 cases r with
 | nil=>rfl
 | cons d r=>simp only [lines];rw [if_neg (fun e=>h r (by rw [e.2])),if_neg ag,if_pos trivial]
theorem yl {c:Nat} (h1:c≠10) (h2:c≠13) (r:List Nat):lines (c::r)=(c::(lines r).1,(lines r).2):=by
 cases r with
 | nil=>simp only [lines];rw [if_neg h1,if_neg h2]
 | cons d r=>simp only [lines];rw [if_neg (fun e=>h2 e.1),if_neg h1,if_neg h2]
def tH (k:Nat):List Nat:=if k=0 then [10] else if k=1 then [13,10] else [13]
def dA:List Nat→List Nat→Option (List Nat)
 | [],[]=>some []
 | [],_::_=>none
 | c::r,ks=>if c=10 then (match ks with
   | []=>none
   | k::ks=>(dA r ks).map (tH k++·)) else (dA r ks).map (c::·)
theorem yi:∀(n:Nat) (l:List Nat),l.length≤n→dA (lines l).1 (lines l).2=some l∧(∀k∈(lines l).2,k<3)∧(lines l).2.length≤l.length∧(lines l).1.length≤l.length∧(∀c∈(lines l).1,c=10∨c∈l)
 | 0,l,h=>by
  have:l=[]:=List.eq_nil_of_length_eq_zero aa
  subst this
  exact ⟨rfl,by simp [lines],Nat.le_refl _,Nat.le_refl _,by simp [lines]⟩
 | n+1,[],h=>⟨rfl,by simp [lines],Nat.le_refl _,Nat.le_refl _,by simp [lines]⟩
 | n+1,c::r,h=>by
  have hr:r.length≤n:=by simpa using h
  obtain ⟨a1,a2,a3,a4,a5⟩:=yi n r hr
  by_cases h1:c=10
  ·subst h1
   rw [yk]
   refine ⟨?_,?_,by simp only [List.length_cons];omega,by simp only [List.length_cons];omega,?_⟩
   ·simp only [dA,if_true,a1]
    rfl
   ·intro k hk
    rcases List.mem_cons.1 hk with rfl|hk
    ·decide
    ·exact a2 k hk
   ·intro c hc
    rcases List.mem_cons.1 hc with rfl|hc
    ·exact .inl rfl
    ·rcases a5 c hc with h|h
     ·exact .inl h
     ·exact .inr (by simp [h])
  by_cases h2:c=13
  ·subst h2
   by_cases h3:∃k,r=10::k
   ·obtain ⟨r,rfl⟩:=h3
    obtain ⟨a1,a2,a3,a4,a5⟩:=yi n r (by simp at hr;omega)
    rw [yj]
    refine ⟨?_,?_,by simp only [List.length_cons];omega,by simp only [List.length_cons];omega,?_⟩
    ·simp only [dA,if_true,a1]
     rfl
    ·intro k hk
     rcases List.mem_cons.1 hk with rfl|hk
     ·decide
     ·exact a2 k hk
    ·intro c hc
     rcases List.mem_cons.1 hc with rfl|hc
     ·exact .inl rfl
     ·rcases a5 c hc with h|h
      ·exact .inl h
      ·exact .inr (by simp [h])
   ·rw [uO (fun k e=>h3 ⟨k,e⟩)]
    refine ⟨?_,?_,by simp only [List.length_cons];omega,by simp only [List.length_cons];omega,?_⟩
    ·simp only [dA,if_true,a1]
     rfl
    ·intro k hk
     rcases List.mem_cons.1 hk with rfl|hk
     ·decide
     ·exact a2 k hk
    ·intro c hc
     rcases List.mem_cons.1 hc with rfl|hc
     ·exact .inl rfl
     ·rcases a5 c hc with h|h
      ·exact .inl h
      ·exact .inr (by simp [h])
  ·rw [yl h1 h2]
   refine ⟨?_,a2,by simp only [List.length_cons];omega,by simp only [List.length_cons];omega,?_⟩
   ·simp only [dA,a1]
    rw [if_neg h1]
    rfl
   ·intro x hx
    rcases List.mem_cons.1 hx with rfl|hx
    ·exact .inr ae
    ·rcases a5 x hx with h|h
     ·exact .inl h
     ·exact .inr (by simp [h])
theorem CA:∀(n:Nat) (l:List Nat),l.length≤n→(∀k∈(lines l).2,k=0)→(lines l).1=l
 | 0,l,h,_=>by
  have:l=[]:=List.eq_nil_of_length_eq_zero aa
  subst this
  rfl
 | n+1,[],h,_=>rfl
 | n+1,c::r,h,hk=>by
  have hr:r.length≤n:=by simpa using h
  by_cases h1:c=10
  ·subst h1
   rw [yk] at hk ⊢
   rw [CA n r hr fun k h=>hk k (by simp [h])]
  by_cases h2:c=13
  ·subst h2
   by_cases h3:∃k,r=10::k
   ·obtain ⟨r,rfl⟩:=h3
    rw [yj] at hk
    exact absurd (hk 1 ae) ag
   ·rw [uO (fun k e=>h3 ⟨k,e⟩)] at hk
    exact absurd (hk 2 ae) ag
  ·rw [yl h1 h2] at hk ⊢
   rw [CA n r hr hk]
abbrev bK:=Nat×Nat
def bN:List Nat→List bK
 | []=>[]
 | k::ks=>match bN ks with
  | (j,n)::r=>if k=j then (j,n+1)::r else (k,1)::(j,n)::r
  | []=>[(k,1)]
def bP (rs:List bK):List Nat:=rs.flatMap fun r=>List.replicate r.2 r.1
def lX (p:Nat):List bK→Prop
 | []=>True
 | r::rs=>r.1<3∧1≤r.2∧r.1≠p∧lX r.1 rs
def eC (rs:List bK):Nat:=(rs.map (·.2)).sum
theorem na:∀(ks:List Nat),bP (bN ks)=ks∧(bN ks).head?.map (·.1)=ks.head?∧((∀k∈ks,k<3)→∀p,ks.head?≠some p→lX p (bN ks))∧eC (bN ks)=ks.length∧(bN ks).length≤ks.length
 | []=>⟨rfl,rfl,fun _ _ _=>trivial,rfl,Nat.le_refl _⟩
 | k::ks=>by
  obtain ⟨a1,a2,a3,a4,a5⟩:=na ks
  unfold bN
  split
  ·rename_i j n r hr
   rw [hr] at a1 a2 a3 a4 a5
   have hj:ks.head?=some j:=a2.symm
   split
   ·rename_i e
    subst e
    refine ⟨?_,rfl,fun h p hp=>?_,?_,?_⟩
    ·unfold bP at a1 ⊢
     rw [List.flatMap_cons] at a1 ⊢
     simp only [List.replicate_succ,List.cons_append] at a1 ⊢
     rw [a1]
    ·have:=a3 (fun x hx=>h x (by simp [hx])) 3 (by rw [hj];have:=h k ae;simp;omega)
     obtain ⟨b1,b2,_,b4⟩:=this
     exact ⟨b1,ae,fun e=>hp (by rw [←e];rfl),b4⟩
    ·unfold eC at a4 ⊢
     simp only [List.map_cons,List.sum_cons,List.length_cons] at a4 ⊢
     omega
    ·simp only [List.length_cons] at a5 ⊢
     omega
   ·rename_i e
    refine ⟨?_,rfl,fun h p hp=>?_,?_,?_⟩
    ·unfold bP at a1 ⊢
     rw [List.flatMap_cons,a1]
     rfl
    ·have:=a3 (fun x hx=>h x (by simp [hx])) k (by rw [hj];simp;exact fun q=>e q.symm)
     exact ⟨h k ae,Nat.le_refl _,fun e=>hp (by rw [←e];rfl),this⟩
    ·unfold eC at a4 ⊢
     simp only [List.map_cons,List.sum_cons,List.length_cons] at a4 ⊢
     omega
    ·simp only [List.length_cons] at a5 ⊢
     omega
  ·rename_i hr
   rw [hr] at a1 a4
   refine ⟨?_,rfl,fun h p hp=>⟨h k ae,Nat.le_refl _,fun e=>hp (by rw [←e];rfl),trivial⟩,?_,ae⟩
   ·rw [←a1];rfl
   ·unfold eC at a4 ⊢
    simp only [List.map_cons,List.sum_cons,List.length_cons,List.map_nil,List.sum_nil] at a4 ⊢
    omega
theorem Kq:∀(n k:Nat) (ks:List Nat),ks.head?≠some k→bN (List.replicate (n+1) k++ks)=(k,n+1)::bN ks
 | 0,k,ks,h=>by
  show (match bN ks with|(j,n)::r=>if k=j then (j,n+1)::r else (k,1)::(j,n)::r|[]=>[(k,1)])=_
  have h2:=(na ks).2.1
  cases hr:bN ks with
  | nil=>rfl
  | cons x r =>
   obtain ⟨j,n⟩:=x
   rw [hr] at h2
   simp only
   rw [if_neg]
   rintro rfl
   exact h h2.symm
 | n+1,k,ks,h=>by
  rw [List.replicate_succ,List.cons_append,bN,Kq n k ks h]
  simp
theorem Ko:∀(rs:List bK) (p:Nat),lX p rs→bN (bP rs)=rs∧(bP rs).head?=rs.head?.map (·.1)∧(∀k∈bP rs,k<3)∧(bP rs).length=eC rs
 | [],_,_=>⟨rfl,rfl,by simp [bP],rfl⟩
 | (k,n)::rs,p,h=>by
  obtain ⟨h1,h2,h3,h4⟩:=h
  obtain ⟨a1,a2,a3,a4⟩:=Ko rs k h4
  obtain ⟨m,rfl⟩:∃m,n=m+1:=⟨n - 1,by dsimp only at h2;omega⟩
  have e:bP ((k,m+1)::rs)=List.replicate (m+1) k++bP rs:=rfl
  have hh:(bP rs).head?≠some k:=by
   rw [a2]
   cases rs with
   | nil=>simp
   | cons r rs=>simp only [List.head?_cons,Option.map_some];intro q;exact h4.2.2.1 (Option.some.inj q)
  rw [e,Kq _ _ _ hh,a1]
  refine ⟨rfl,rfl,fun x hx=>?_,?_⟩
  ·rcases List.mem_append.1 hx with hx|hx
   ·rw [(List.mem_replicate.1 hx).2];exact h1
   ·exact a3 x hx
  ·rw [List.length_append,List.length_replicate,a4]
   rfl
end Go.Proofs.YtmoiobegbpkkbaaGreatDoor
