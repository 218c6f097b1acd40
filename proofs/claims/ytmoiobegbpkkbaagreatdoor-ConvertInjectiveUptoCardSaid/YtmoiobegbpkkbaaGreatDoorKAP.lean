import Derived.Test.YtmoiobegbpkkbaaGreatDoorKAO
import Derived.Test.YtmoiobegbpkkbaaGreatDoorCards
import Derived.Test.YtmoiobegbpkkbaaGreatDoorTie
import Derived.Deep.DeepHandedRow
import Derived.Lib.LaidU8
import Derived.Lib.LaidU8T
import Derived.Shelf.Vars
namespace Go.Proofs.YtmoiobegbpkkbaaGreatDoor
open Go Go.RowKit
set_option maxRecDepth 100000
set_option maxHeartbeats 8000000
theorem KW {V V':World} (h:Lib.Utf8Tabs 0 1 V) (k:Sub V V'):Lib.Utf8Tabs 0 1 V' :=
 ⟨fun c hc=>k.cell (h.1 c hc),fun i hi=>⟨k.cell (h.2 i hi).1,k.cell (h.2 i hi).2⟩⟩
theorem Ep:∀ {l ks cs:List Nat},dA l ks=some cs→(∀c∈cs,c∈l∨c=10∨c=13)∧cs.length≤2*l.length
 | [],[],cs,h=>by cases h;simp
 | [],_::_,cs,h=>by cases h
 | c::r,ks,cs,h=>by
  by_cases gM:c=10
  ·subst gM
   cases ks with
   | nil=>rw [Lx] at h;cases h
   | cons k ks =>
    rw [Lw] at h
    cases hr:dA r ks with
    | none=>rw [hr] at h;cases h
    | some ds =>
     rw [hr] at h
     cases h
     obtain ⟨a1,a2⟩:=Ep hr
     have he:(tH k).length≤2∧∀c∈tH k,c=10∨c=13:=by
      unfold tH
      split
      ·simp
      ·split<;>simp
     refine ⟨fun x hx=>?_,by rw [List.length_append,List.length_cons];omega⟩
     rcases List.mem_append.1 hx with hx|hx
     ·exact .inr (he.2 x hx)
     ·rcases a1 x hx with h|h
      ·exact .inl (by simp [h])
      ·exact .inr h
  ·rw [Ly gM] at h
   cases hr:dA r ks with
   | none=>rw [hr] at h;cases h
   | some ds =>
    rw [hr] at h
    cases h
    obtain ⟨a1,a2⟩:=Ep hr
    refine ⟨fun x hx=>?_,by simp only [List.length_cons];omega⟩
    rcases List.mem_cons.1 hx with rfl|hx
    ·exact .inl ae
    ·rcases a1 x hx with h|h
     ·exact .inl (by simp [h])
     ·exact .inr h
theorem OJ {e:Nat} {cs:List Nat} {o:List UInt8} (h:gL e cs=some o):o.length≤4*cs.length+3:=by
 have h8:=Ei cs cs.length
 have ht:=zy true cs cs.length
 have hf:=zy false cs cs.length
 rw [List.take_length] at h8 ht hf
 unfold gL at h
 split at h
 ·cases h;omega
 ·split at h
  ·cases h;rw [List.length_append];simp only [List.length_cons,List.length_nil];omega
  ·split at h
   ·cases h;rw [List.length_append];simp only [List.length_cons,List.length_nil];omega
   ·split at h
    ·cases h;rw [List.length_append];simp only [List.length_cons,List.length_nil];omega
    ·split at h
     ·cases h;rw [List.length_map];omega
     ·cases h
theorem Xf {b:List UInt8} {e:Nat} {rs:List bK} (h:gk b=some (e,rs)) (l:List Nat):(if eu e (bP rs)=true then some l else dA l (bP rs))=qz b rs l∧(eu e (bP rs)=true→rs=[]):=by
 obtain ⟨_,_,_,_,hiff⟩:=Ll h
 unfold qz
 by_cases hb:b=[]
 ·rw [if_pos (hiff.1 hb),if_pos hb]
  refine ⟨rfl,fun _=>?_⟩
  unfold gk at h
  rw [if_pos hb] at h
  cases h
  rfl
 ·rw [if_neg (fun q=>hb (hiff.2 q)),if_neg hb]
  exact ⟨rfl,fun q=>absurd (hiff.2 q) hb⟩
section
variable {V W:World}
theorem Pu (hV:Sub V W) (hT:Lib.Utf8Tabs 0 1 V) {h:VH} {v:ah} (hv:bc V h v) (hB:VB 1048576 v) {s:Sl} {b:List UInt8} (hs:ao V s b) (hl:b.length≤100000000):aj Tryz.prog 56 [fG h,s.v].toArray W (sY W V (kG v (l9 v).isSome (ja v b))):=by
 have H:=Rel.start hV
 have p5:=hv
 have ek:=hv.kind
 have hby:=hv.bytes
 have hbl:=hB.bytes
 obtain ⟨k,n,bs,ss,pl⟩:=h
 dsimp only at ek hby
 change aj Tryz.prog 56 [.agg [iv k,iv n,bs.v,ss.v,pl.v].toArray,s.v].toArray W _
 refine eV Tryz.func56 86 [0,1,2,4,5,6,7,8,9,10,11,12,13,14,19,23,38,48,58,82] ?_
 refine wk ?_
 refine H.nA ?_;clear H;intro w b2 H
 refine wk ?_
 refine H.nA ?_;clear H;intro w b5 H
 refine wk ?_
 refine (sP H.data p5 hB).use ?_
 rintro q w ⟨rfl,K⟩
 (replace H:=H.aq K)
 refine wk ?_
 refine H.nA ?_;clear H;intro w b6 H
 by_cases cK:(bC v).1=0
 rotate_left
 ·have e:kG v (l9 v).isSome (ja v b)=([],bC v):=by unfold kG;rw [if_pos cK]
  rw [e]
  refine H.wg ?_;clear H;intro w H
  (first|refine az (id:=3) ad mixed [] [0,1,2] ab ?_|refine az (id:=9) ad mixed [] [0,1,2] ab ?_|refine az (id:=12) ad mixed [] [0,1,2] ab ?_|refine az (id:=15) ad mixed [] [0,1,2] ab ?_|refine az (id:=18) ad mixed [] [0,1,2] ab ?_);intro w aG;replace H:=Rel.ext H aG.ext
  refine H.wg ?_;clear H;intro w H
  exact ⟨V,⟨none,0,0⟩,Sub.refl _,H.sx,rfl,aw.nil _ _⟩
 have RB:=sR cK
 rw [RB]
 by_cases eN:k=2
 rotate_left
 ·have dx:l9 v=none:=by unfold l9;rw [if_neg (by rw [←ek];exact eN)]
  rw [dx]
  have e:kG v (none:Option (List UInt8)).isSome (ja v b)=([],13,0):=by unfold kG;rw [if_neg (fun h=>h cK)];rfl
  rw [e]
  refine H.wg ?_;clear H;intro w H
  refine (w8 H.data 13 0).use ?_
  rintro q w ⟨rfl,K⟩
  (replace H:=H.aq K)
  refine H.wg ?_;clear H;intro w H
  exact ⟨V,⟨none,0,0⟩,Sub.refl _,H.sx,rfl,aw.nil _ _⟩
 have dx:l9 v=some v.bytes:=by unfold l9;rw [if_pos (by rw [←ek];exact eN)]
 have Rr:=XK (XL cK).1 (by rw [←ek];exact eN)
 have cr:ja v b=match nn v.bytes b with
   | none=>none
   | some o=>open Classical in if o.length≤1000∧eR o=some (v,b) then some o else none:=by
  unfold ja
  rw [dx]
  rfl
 rw [dx]
 have nB:ja v b=none→kG v (some v.bytes).isSome (ja v b)=([],6, -2):=fun h=>by
  rw [h]
  unfold kG
  rw [if_neg (fun h=>h cK)]
  rfl
 refine H.wg ?_;clear H;intro w H
 refine (w8 H.data 6 (-2)).use ?_
 rintro q w ⟨rfl,K⟩
 (replace H:=H.aq K)
 refine wk ?_
 refine H.nA ?_;clear H;intro w b7 H
 refine H.wg ?_;clear H;intro w H
 refine (UN H.data hs aa).use ?_
 rintro q w ⟨V2,e,r,hV2,K,hres⟩
 (replace H:=H.aq K)
 cases hr:gk b with
 | none =>
  rw [hr] at hres
  obtain rfl:=hres
  have e:=nB (by rw [cr];unfold nn;rw [hr])
  refine wk ?_
  refine H.nA ?_;clear H;intro w b8 H
  rw [e]
  refine H.wg ?_;clear H;intro w H
  (first|refine az (id:=3) ad mixed [] [0,1,2] ab ?_|refine az (id:=9) ad mixed [] [0,1,2] ab ?_|refine az (id:=12) ad mixed [] [0,1,2] ab ?_|refine az (id:=15) ad mixed [] [0,1,2] ab ?_|refine az (id:=18) ad mixed [] [0,1,2] ab ?_);intro w aG;replace H:=Rel.ext H aG.ext
  refine H.wg ?_;clear H;intro w H
  exact ⟨V2,⟨none,0,0⟩,hV2,H.sx,rfl,aw.nil _ _⟩
 | some x =>
  obtain ⟨e',rs⟩:=x
  rw [hr] at hres
  obtain ⟨rfl,rfl,Cf⟩:=hres
  obtain ⟨h5,ho,rO,_,_⟩:=Ll hr
  have hos:=sC ho
  have hpos:=zf ho
  refine wk ?_
  refine H.nA ?_;clear H;intro w b8 H
  refine H.wg ?_;clear H;intro w H
  refine (LH H.data (KW hT hV2) (hby.up hV2) aa).use ?_
  rintro q w ⟨rfl,K⟩
  (replace H:=H.aq K)
  cases hch:chars v.bytes with
  | none =>
   have e:=nB (by rw [cr];unfold nn;rw [hr];simp only;rw [hch])
   rw [e]
   refine wk ?_
   (first|refine az (id:=3) ad mixed [] [0,1,2] ab ?_|refine az (id:=9) ad mixed [] [0,1,2] ab ?_|refine az (id:=12) ad mixed [] [0,1,2] ab ?_|refine az (id:=15) ad mixed [] [0,1,2] ab ?_|refine az (id:=18) ad mixed [] [0,1,2] ab ?_);intro w aG;replace H:=Rel.ext H aG.ext
   refine H.wg ?_;clear H;intro w H
   exact ⟨V2,⟨none,0,0⟩,hV2,H.sx,rfl,aw.nil _ _⟩
  | some l =>
   obtain ⟨hcl,Qj⟩:=Ao.1 hch
   have hll:l.length≤v.bytes.length:=by rw [←Qj];exact GU
   obtain ⟨hcs,htr⟩:=Xf hr l
   refine wk ?_
   refine (R0 H.data (hby.up hV2) hbl hch Cf aa (fun r hr=>⟨(hos.2 r hr).1,hpos r hr,by have:=(hos.2 r hr).2;omega⟩) htr).use ?_
   rw [hcs]
   rintro q w ⟨V3,r3,ar,K,hj⟩
   (replace H:=H.aq K)
   cases dZ:qz b rs l with
   | none =>
    rw [dZ] at hj
    obtain rfl:=hj
    have e:=nB (by rw [cr];unfold nn;rw [hr];simp only;rw [hch];simp only;rw [dZ])
    rw [e]
    refine wk ?_
    (first|refine az (id:=3) ad mixed [] [0,1,2] ab ?_|refine az (id:=9) ad mixed [] [0,1,2] ab ?_|refine az (id:=12) ad mixed [] [0,1,2] ab ?_|refine az (id:=15) ad mixed [] [0,1,2] ab ?_|refine az (id:=18) ad mixed [] [0,1,2] ab ?_);intro w aG;replace H:=Rel.ext H aG.ext
    refine H.wg ?_;clear H;intro w H
    exact ⟨V3,⟨none,0,0⟩,hV2.trans ar,H.sx,rfl,aw.nil _ _⟩
   | some cs =>
    rw [dZ] at hj
    obtain ⟨rfl,bB⟩:=hj
    have mD:(∀c∈cs,bT c)∧cs.length≤2*l.length:=by
     unfold qz at dZ
     split at dZ
     ·cases dZ;exact ⟨hcl,aa⟩
     ·obtain ⟨a1,a2⟩:=Ep dZ
      refine ⟨fun c hc=>?_,a2⟩
      rcases a1 c hc with h|h|h
      ·exact hcl c h
      ·rw [h];unfold bT;omega
      ·rw [h];unfold bT;omega
    refine wk ?_
    refine (OU H.data bB aa mD.1 h5).use ?_
    rintro q w ⟨V4,r4,av,K,he⟩
    (replace H:=H.aq K)
    have hout:nn v.bytes b=gL e' cs:=by unfold nn;rw [hr];simp only;rw [hch];simp only;rw [dZ]
    cases hen:gL e' cs with
    | none =>
     rw [hen] at he
     obtain rfl:=he
     have e:=nB (by rw [cr,hout,hen])
     rw [e]
     refine wk ?_
     (first|refine az (id:=3) ad mixed [] [0,1,2] ab ?_|refine az (id:=9) ad mixed [] [0,1,2] ab ?_|refine az (id:=12) ad mixed [] [0,1,2] ab ?_|refine az (id:=15) ad mixed [] [0,1,2] ab ?_|refine az (id:=18) ad mixed [] [0,1,2] ab ?_);intro w aG;replace H:=Rel.ext H aG.ext
     refine H.wg ?_;clear H;intro w H
     exact ⟨V4,⟨none,0,0⟩,(hV2.trans ar).trans av,H.sx,rfl,aw.nil _ _⟩
    | some O =>
     rw [hen] at he
     obtain ⟨rfl,hO⟩:=he
     have YO:=OJ hen
     rw [hout,hen] at cr
     simp only at cr
     refine wk ?_
     refine (K5 H.data (KW hT ((hV2.trans ar).trans av)) hO aa).use ?_
     rintro q w ⟨V5,hh,rr,aF,K,rfl,x6,xW⟩
     (replace H:=H.aq K)
     have pz:=((hV2.trans ar).trans av).trans aF
     by_cases Bp:1000<O.length
     ·have et:aU (eR O) O.length=⟨zeroV,[],3, -1⟩:=by unfold aU;rw [if_pos Bp]
      rw [et]
      have e:=nB (by rw [cr,if_neg];intro h;omega)
      refine wk ?_
      refine H.nA ?_;clear H;intro w oW H
      refine wk ?_
      refine H.nA ?_;clear H;intro w jV H
      rw [e]
      refine H.wg ?_;clear H;intro _ w H
      (first|refine az (id:=3) ad mixed [] [0,1,2] ab ?_|refine az (id:=9) ad mixed [] [0,1,2] ab ?_|refine az (id:=12) ad mixed [] [0,1,2] ab ?_|refine az (id:=15) ad mixed [] [0,1,2] ab ?_|refine az (id:=18) ad mixed [] [0,1,2] ab ?_);intro w aG;replace H:=Rel.ext H aG.ext
      refine H.wg ?_;clear H;intro w H
      exact ⟨V5,⟨none,0,0⟩,pz,H.sx,rfl,aw.nil _ _⟩
     cases hto:eR O with
     | none =>
      rw [hto] at x6 xW
      have et:aU none O.length=⟨zeroV,[],21, -1⟩:=by unfold aU;rw [if_neg Bp]
      rw [et]
      have e:=nB (by rw [cr,if_neg];intro h;rw [hto] at h;cases h.2)
      refine wk ?_
      refine H.nA ?_;clear H;intro w oW H
      refine wk ?_
      refine H.nA ?_;clear H;intro w jV H
      rw [e]
      refine H.wg ?_;clear H;intro _ w H
      (first|refine az (id:=3) ad mixed [] [0,1,2] ab ?_|refine az (id:=9) ad mixed [] [0,1,2] ab ?_|refine az (id:=12) ad mixed [] [0,1,2] ab ?_|refine az (id:=15) ad mixed [] [0,1,2] ab ?_|refine az (id:=18) ad mixed [] [0,1,2] ab ?_);intro w aG;replace H:=Rel.ext H aG.ext
      refine H.wg ?_;clear H;intro w H
      exact ⟨V5,⟨none,0,0⟩,pz,H.sx,rfl,aw.nil _ _⟩
     | some y =>
      obtain ⟨wv,wr⟩:=y
      have et:aU (some (wv,wr)) O.length=⟨wv,wr,0,0⟩:=by unfold aU;rw [if_neg Bp]
      rw [hto,et] at x6 xW
      rw [et]
      dsimp only at x6 xW ⊢
      obtain ⟨eJ,e2,T⟩:=Eg hto
      have Ru:=T.val
      have hcond:(O.length≤1000∧eR O=some (v,b))↔(wv.bytes=v.bytes∧wr=b):=by
       rw [hto]
       constructor
       ·rintro ⟨_,h⟩
        simp only [Option.some.injEq,Prod.mk.injEq] at h
        exact ⟨by rw [h.1],h.2⟩
       ·rintro ⟨e1,e2⟩
        refine ⟨aa,?_⟩
        rw [e2,Rr,←e1,Ru]
      have Ir:=x6.bytes
      obtain ⟨hk,hn,mC,Il,Zc⟩:=hh
      dsimp only at Ir
      refine wk ?_
      refine H.nA ?_;clear H;intro w oW H
      refine wk ?_
      refine H.nA ?_;clear H;intro w jV H
      refine H.wg ?_;clear H;intro _ w H
      refine (wY H.data Ir (hby.up pz)).use ?_
      rintro q w ⟨rfl,K⟩
      (replace H:=Rel.call H K)
      simp only [List.nil_append] at H
      by_cases hc1:wv.bytes=v.bytes
      rotate_left
      ·rw [decide_eq_false hc1]
       have e:=nB (by rw [cr,if_neg];intro h;exact hc1 (hcond.1 h).1)
       rw [e]
       refine wk ?_
       (first|refine az (id:=3) ad mixed [] [0,1,2] ab ?_|refine az (id:=9) ad mixed [] [0,1,2] ab ?_|refine az (id:=12) ad mixed [] [0,1,2] ab ?_|refine az (id:=15) ad mixed [] [0,1,2] ab ?_|refine az (id:=18) ad mixed [] [0,1,2] ab ?_);intro w aG;replace H:=Rel.ext H aG.ext
       refine H.wg ?_;clear H;intro w H
       exact ⟨V5,⟨none,0,0⟩,pz,H.sx,rfl,aw.nil _ _⟩
      rw [decide_eq_true hc1]
      refine wk ?_
      refine (wY H.data xW (hs.up pz)).use ?_
      rintro q w ⟨rfl,K⟩
      (replace H:=Rel.call H K)
      simp only [List.nil_append] at H
      by_cases hc2:wr=b
      rotate_left
      ·rw [decide_eq_false hc2]
       have e:=nB (by rw [cr,if_neg];intro h;exact hc2 (hcond.1 h).2)
       rw [e]
       refine wk ?_
       (first|refine az (id:=3) ad mixed [] [0,1,2] ab ?_|refine az (id:=9) ad mixed [] [0,1,2] ab ?_|refine az (id:=12) ad mixed [] [0,1,2] ab ?_|refine az (id:=15) ad mixed [] [0,1,2] ab ?_|refine az (id:=18) ad mixed [] [0,1,2] ab ?_);intro w aG;replace H:=Rel.ext H aG.ext
       refine H.wg ?_;clear H;intro w H
       exact ⟨V5,⟨none,0,0⟩,pz,H.sx,rfl,aw.nil _ _⟩
      rw [decide_eq_true hc2]
      have e:kG v (some v.bytes).isSome (ja v b)=(O,0,0):=by
       rw [cr,if_pos (hcond.2 ⟨hc1,hc2⟩)]
       unfold kG
       rw [if_neg (fun h=>h cK)]
       rfl
      rw [e]
      refine H.wg ?_;clear H;intro w H
      exact ⟨V5,r4,pz,H.sx,rfl,hO.up aF⟩
end
section
variable {V W:World}
theorem SZ (u:Value):wc Tryz.prog 73 u "scriptorium/convert.from" 400 u:=fun w=>by kernel_rfl
theorem Pt (hV:Sub V W) (hT:jM V) {z:Int} (hz:0≤z∧z<7) {h:VH} {s:Sl} {l:List UInt8} (hl:l.length≤1000) (hk:(eK l).1=z) {t:TypeId} {x:Value} {f:FuncId} (h1:mq z.toNat=.iface t x) (h2:wc Tryz.prog t x "scriptorium/convert.from" f x)
  (h3:∀ {W:World},Sub V W→aj Tryz.prog f [x,fG h,s.v].toArray W (sY W V (l,0,0))):aj Tryz.prog 13 [yQ z h s].toArray W (sY W V (l,0,0)):=by
 have H:=Rel.start hV
 refine eV Tryz.func13 50 [0,1,2,3,4,5,6,7,8,9,17,30,46] ?_
 refine wk ?_
 refine H.nA ?_;clear H;intro w b1 H
 refine wk ?_
 refine H.nA ?_;clear H;intro w b3 H
 refine wk ?_
 refine (GJ H.data hz).use ?_
 rintro q w ⟨rfl,K⟩
 (replace H:=H.aq K)
 rw [h1]
 refine wk ?_
 refine ⟨_,_,h2,(h3 H.data).use ?_⟩
 rintro q w ⟨V2,r,hV2,K,rfl,hr⟩
 (replace H:=H.aq K)
 dsimp only at hr ⊢
 refine wk ?_
 refine H.nA ?_;clear H;intro w b7 H
 refine H.wg ?_;clear H;intro w H
 refine (vJ H.data (hT.up hV2) hr aa).use ?_
 have e:jX l=(eK l,0,0):=if_neg aa
 rw [e]
 rintro q w ⟨V3,h3,r3,ar,K,rfl,xZ,bB⟩
 (replace H:=H.aq K)
 dsimp only
 rw [hk]
 refine wk ?_
 refine H.nA ?_;clear H;intro w b8 H
 refine wk ?_
 refine H.nA ?_;clear H;intro w b9 H
 refine H.wg ?_;clear H;intro _ _ w H
 exact ⟨V3,r,hV2.trans ar,H.sx,rfl,hr.up ar⟩
theorem Vx (hV:Sub V W) {k k':Int} {h h':VH} {v v':ah} {s s':Sl} {r r':List UInt8} (hv:bc V h v) (hv':bc V h' v') (hB:VB 1099511627776 v) (hr:ao V s r) (hr':ao V s' r') (hk:bI k) (hk':bI k') :
  aj Tryz.prog 11 [yQ k h s,yQ k' h' s'].toArray W fun q w'=>∃b:Bool,q=.bool b∧(b=true↔(k,v,r)=(k',v',r'))∧Rel W V [] V w':=by
 have H:=Rel.start hV
 refine eV Tryz.func11 24 [0,1,2,3,4] ?_
 refine wk ?_
 refine H.nA ?_;clear H;intro w b2 H
 refine wk ?_
 refine H.nA ?_;clear H;intro w b3 H
 by_cases kN:k=k'
 rotate_left
 ·refine wk ?_
  exact ⟨false,rfl,by simp [kN],H.sx⟩
 subst kN
 refine wk ?_
 refine (Vy (SizeOf.sizeOf v+1) H.data (Nat.lt_succ_self _) hv hv' hB).use ?_
 rintro q w ⟨b,rfl,Ii,K⟩
 (replace H:=H.aq K)
 cases b with
 | false =>
  refine wk ?_
  exact ⟨false,rfl,by simp [←Ii],H.sx⟩
 | true =>
  obtain rfl:=Ii.1 rfl
  refine wk ?_
  refine (wC H.data hr hr').use ?_
  rintro q w ⟨rfl,K⟩
  (replace H:=H.aq K)
  refine wk ?_
  exact ⟨_,rfl,ae,H.sx⟩
end
theorem AE:eK [65,10]=(1,fD [65,10],[]):=by
 have h0:eo [65,10]=none:=ab
 have h1:eg [65,10]=none:=ab
 have h2:eZ [65,10]=none:=ab
 have h3:eD [65,10]=none:=ab
 have h4:fi [65,10]=none:=ab
 have h5:eR [65,10]=some (fD [65,10],[]):=ab
 unfold eK
 rw [h0,h1,h2,h3,h4,h5]
theorem Of:eK [0]=(0,fD [0],[]):=by
 have h0:eo [0]=none:=ab
 have h1:eg [0]=none:=ab
 have h2:eZ [0]=none:=ab
 have h3:eD [0]=none:=ab
 have h4:fi [0]=none:=ab
 have h5:eR [0]=none:=ab
 unfold eK
 rw [h0,h1,h2,h3,h4,h5]
section
variable {V W:World}
theorem O4 (hV:Sub V W) (hT:jM V):aj Tryz.prog 8 [].toArray W fun q w'=>q=.bool true∧∃V',Sub V V'∧Rel W V [] V' w':=by
 have H:=Rel.start hV
 refine eV Tryz.func8 65 [0,1,2,3,4,5,6] ?_
 refine wk ?_
 refine H.nA ?_;clear H;intro w b8 H
 replace H:=H.cj (c':=([65,10]:List UInt8).flatMap ay) rfl
 refine wk ?_
 refine Rel.tv (b:=b8) (l:=[65,10]) rfl rfl H rfl ?_
 clear H
 intro V1 w hV1 hx H
 refine wk ?_
 refine (vJ H.data (hT.up hV1) hx ag).use ?_
 rintro q w ⟨V2,h,r,hV2,K,rfl,hv,hr⟩
 (replace H:=H.aq K)
 have e:jX [65,10]=((1,fD [65,10],[]),0,0):=by unfold jX;rw [if_neg ag,AE]
 rw [e] at hv hr ⊢
 have hvb:=hv.bytes
 dsimp only at hv hr hvb ⊢
 refine wk ?_
 refine H.nA ?_;clear H;intro w b1 H
 refine wk ?_
 refine H.nA ?_;clear H;intro w b2 H
 refine H.wh ?_;clear H;intro _ w H
 refine H.nA ?_;clear H;intro w jV H
 replace H:=H.cj (c':=([0]:List UInt8).flatMap ay) rfl
 obtain ⟨V3,ar,H,mB⟩:=H.bJ
 have uI:ao V3 ⟨some ⟨jV,0,none⟩,1,1⟩ [0]:=⟨rfl,Nat.le_refl _,mB.cells⟩
 have tW:=hV1.trans (hV2.trans ar)
 refine wk ?_
 refine (vJ H.data (hT.up tW) uI ag).use ?_
 rintro q w ⟨V4,h4,r4,av,K,rfl,Cl,hr4⟩
 (replace H:=H.aq K)
 have e:jX [0]=((0,fD [0],[]),0,0):=by unfold jX;rw [if_neg ag,Of]
 rw [e] at Cl hr4 ⊢
 have Ip:=Cl.bytes
 dsimp only at Cl hr4 Ip ⊢
 refine wk ?_
 refine H.nA ?_;clear H;intro w b3 H
 refine wk ?_
 refine H.nA ?_;clear H;intro w b4 H
 refine H.wg ?_;clear H;intro _ w H
 have jr:=ar.trans av
 have Bt:=tW.trans av
 obtain ⟨hok,hB,hrl⟩:=tB (l:=[65,10]) ag
 rw [AE] at hok hB hrl
 have cr:ja (fD [65,10]) []=some [65,10]:=Lm ag ab
 refine (Pt H.data (hT.up Bt) ag (l:=[65,10]) ag (by rw [AE]) rfl (SZ _) fun h9=>TJ h9 fun h9=>?_).use ?_
 ·have gM:=Pu h9 (hT.up Bt).tb (hv.up jr) hB (hr.up jr) ag
  have e:kG (fD [65,10]) (l9 (fD [65,10])).isSome (ja (fD [65,10]) [])=([65,10],0,0):=by
   rw [cr]
   unfold kG
   rw [LR ag]
   rfl
  exact e ▸ gM
 rintro q w ⟨V5,r5,aF,K,rfl,j7⟩
 (replace H:=H.aq K)
 dsimp only at j7 ⊢
 refine wk ?_
 refine H.nA ?_;clear H;intro w b6 H
 refine H.wg ?_;clear H;intro w H
 have PX:=jr.trans aF
 refine ⟨[65,10],hvb.len,fm _ ▸ ((hvb.up PX).up H.data).cells,?_⟩
 refine wk ?_
 refine H.nA ?_;clear H;intro w M4 H
 replace H:=H.cj (c':=([0]:List UInt8).flatMap ay) rfl
 obtain ⟨V6,bL,H,P9⟩:=H.bJ
 have Rx:ao V6 ⟨some ⟨M4,0,none⟩,1,1⟩ [0]:=⟨rfl,Nat.le_refl _,P9.cells⟩
 refine wk ?_
 refine (wC H.data (Ip.up (aF.trans bL)) Rx).use ?_
 rintro q w ⟨rfl,K⟩
 (replace H:=H.aq K)
 rw [decide_eq_true rfl]
 refine wk ?_
 refine ⟨[65,10],j7.len,fm _ ▸ ((j7.up bL).up H.data).cells,?_⟩
 refine wk ?_
 exact (H.sx:Rel W V [] V6 w).less Bt (aF.trans bL)
end
theorem R7 {W:World} (hT:jM W) {s t:Sl} {a b:List UInt8} (hs0:By W s a) (ht0:By W t b) (hab:a.length+b.length≤1048576):aj Tryz.prog 6 [s.v,t.v].toArray W fun v w'=>v=.bool true∧Ext W w':=by
 have H:=Rel.start (Sub.refl W)
 have hs:=hs0.KD
 have ht:=ht0.KD
 have ha:a.length≤1048576:=aa
 have hb:b.length≤1048576:=aa
 have Y1:=hs.len
 have hlt:=ht.len
 refine eV Tryz.func6 44 [0,1,4,5,6,7,8,10,28] ?_
 refine wk ?_
 refine (O4 H.data hT).use ?_
 rintro q w ⟨rfl,V1,hV1,K⟩
 (replace H:=H.aq K)
 refine wk ?_
 refine (vJ H.data (hT.up hV1) (hs.up hV1) ha).use ?_
 rintro q w ⟨V2,h,r,hV2,K,rfl,hv,hr⟩
 (replace H:=H.aq K)
 have mA:=hV1.trans hV2
 refine wk ?_
 refine H.nA ?_;clear H;intro w b5 H
 refine wk ?_
 refine H.nA ?_;clear H;intro w b6 H
 refine H.wg ?_;clear H;intro _ w H
 refine (vJ H.data (hT.up mA) (ht.up mA) hb).use ?_
 rintro q w ⟨V3,h3,r3,ar,K,rfl,xZ,bB⟩
 (replace H:=H.aq K)
 have tW:=mA.trans ar
 by_cases h1:1000<a.length
 ·have e:jX a=((0,zeroV,[]),3, -1):=if_pos h1
  rw [e] at H
  dsimp only at H ⊢
  refine wk ?_
  refine H.nA ?_;clear H;intro w b7 H
  refine wk ?_
  refine H.nA ?_;clear H;intro w b8 H
  refine H.wg ?_;clear H;intro _ w H
  (first|exact H.base|exact ⟨ae,H.base⟩|exact ⟨rfl,H.base⟩)
 have e1:jX a=(eK a,0,0):=if_neg h1
 rw [e1] at hv hr H
 by_cases h2:1000<b.length
 ·have e:jX b=((0,zeroV,[]),3, -1):=if_pos h2
  rw [e]
  dsimp only at H ⊢
  refine wk ?_
  refine H.nA ?_;clear H;intro w b7 H
  refine wk ?_
  refine H.nA ?_;clear H;intro w b8 H
  refine H.wg ?_;clear H;intro _ w H
  exact ⟨by simp;omega,H.base⟩
 have e2:jX b=(eK b,0,0):=if_neg h2
 rw [e2] at xZ bB ⊢
 dsimp only at hv hr xZ bB H ⊢
 obtain ⟨hok,hB,hrl⟩:=tB (l:=a) aa
 obtain ⟨xT,YI,Zg⟩:=tB (l:=b) aa
 have hk:bI (eK a).1:=hok.i64
 have hk':bI (eK b).1:=xT.i64
 refine wk ?_
 refine H.nA ?_;clear H;intro w b7 H
 refine wk ?_
 refine H.nA ?_;clear H;intro w b8 H
 refine H.wg ?_;clear H;intro _ w H
 refine (Vx H.data (hv.up ar) xZ (XM hB) (hr.up ar) bB hk hk').use ?_
 rintro q w ⟨c,rfl,hc,K⟩
 (replace H:=H.aq K)
 refine wk ?_
 refine (wC H.data (hs.up tW) (ht.up tW)).use ?_
 rintro q w ⟨rfl,K⟩
 (replace H:=H.aq K)
 have jt:c=decide (a=b):=by
  rw [Bool.eq_iff_iff,hc,decide_eq_true_eq]
  exact ⟨fun h=>Oj aa aa h,fun h=>by rw [h]⟩
 subst jt
 refine wk ?_
 (first|exact H.base|exact ⟨ae,H.base⟩|exact ⟨rfl,H.base⟩)
section
open Go Go.ChangeShapes Go.WideShapes Go.ChangeAt Go.RowKit
def Dw:Shelf.Ren:=⟨fun x=>x,fun x=>if x=5 then 5 else if x=119 then 258 else if x=138 then 260 else if x=139 then 261 else x,fun x=>if x=3 then 0 else 1⟩
theorem Xo:U8Types Tryz.prog Dw:=⟨ab,ab,ab,ab⟩
theorem Xn:U8Extra Tryz.prog Dw:=⟨ab,ab,ab,ab,ab,ab,ab⟩
theorem Pe:Rows.laid_unicode_utf8_first=Lib.firstData:=ab
theorem MA:(Rows.laid_unicode_utf8_acceptRanges:DataW Unit)=Lib.acceptData:=ab
theorem SV {W:World} (h:W.ShapedOpen Tryz.prog):jO W :=
 cell_of_shapedOpen_int (g:=2) (t:=3) (zero:=#[.int .i64 0]) h (of_decide_eq_true ab) ab rfl ab ab Tryz.underlying3
theorem SW {W:World} (h:W.ShapedOpen Tryz.prog):nt W :=
 cell_of_shapedOpen_int (g:=2) (t:=3) (zero:=#[.int .i64 0]) h (of_decide_eq_true ab) ab rfl ab ab Tryz.underlying3
abbrev Og:List (String×DataW Unit):=[("math/bits.deBruijn32tab",Rows.laid_math_bits_deBruijn32tab),("math/bits.deBruijn64tab",Rows.laid_math_bits_deBruijn64tab),("internal/strconv.uint64pow10",Rows.laid_internal_strconv_uint64pow10),("unicode/utf8.acceptRanges",Rows.laid_unicode_utf8_acceptRanges),("strconv.ErrRange",Rows.laid_strconv_ErrRange),("strconv.ErrSyntax",Rows.laid_strconv_ErrSyntax),("unicode/utf8.first",Rows.laid_unicode_utf8_first)]
theorem Uf:(Rows.laid_internal_strconv_uint64pow10:DataW Unit)=Lib.tabData .u64 Lib.pow10Tab:=ab
theorem Ug {W:World} (h:Lib.VarReads Tryz.prog W "internal/strconv.uint64pow10" (Lib.tabData .u64 Lib.pow10Tab)):Lib.TabIs Tryz.prog W "internal/strconv.uint64pow10" .u64 Lib.pow10Tab:=by
 obtain ⟨g,t,cs,fuel,p,hg,ht,hv,hd⟩:=h
 obtain rfl:=Option.some.inj ((show Tryz.prog.globalNamed "internal/strconv.uint64pow10"=some 3 by kernel_rfl).symm.trans hg)
 obtain rfl:=Option.some.inj ((show (Tryz.prog.globals[(3:Nat)]?).map (·.type)=some 407 by kernel_rfl).symm.trans ht)
 unfold Lib.TabIs
 rw [hv,←Lib.cells_of_tab Tryz.underlying407 Tryz.underlying218 ab ab hd]
theorem Gv {W:World} {n:String} {g:Nat} {nm:String} {d:DataW Unit} (hg0:Tryz.prog.globalNamed n=some g) (ht0:(Tryz.prog.globals[g]?).map (·.type)=some 369) (h:Lib.VarReads Tryz.prog W n (.iface nm d)):∃t p,W.cell? ⟨g,0,none⟩=some (.iface t p):=by
 obtain ⟨g',t,cs,fuel,p,hg,ht,hv,hd⟩:=h
 obtain rfl:=Option.some.inj (hg0.symm.trans hg)
 obtain rfl:=Option.some.inj (ht0.symm.trans ht)
 obtain ⟨_,u,v,hc,_⟩:=iface_of_trod Tryz.underlying369 hd
 have:=World.var?_cell hg hv 0
 rw [Array.eq_one_of_toList hc] at this
 exact ⟨u,v,by simpa using this⟩
theorem Oh {W:World} (h0:laidMetH Tryz.prog Og W) (hsh:W.ShapedOpen Tryz.prog):jM W:=by
 rw [MakeChecks.laidMetH_plain _ _ _ ab] at h0
 have h5:=Lib.laidMet.reads h0 (n := "strconv.ErrSyntax") (d:=Rows.laid_strconv_ErrSyntax) ae
 have h6:=Lib.laidMet.reads h0 (n := "strconv.ErrRange") (d:=Rows.laid_strconv_ErrRange) ae
 have ha:=Lib.laidMet.reads h0 (n := "unicode/utf8.acceptRanges") (d:=Rows.laid_unicode_utf8_acceptRanges) ae
 have hf:=Lib.laidMet.reads h0 (n := "unicode/utf8.first") (d:=Rows.laid_unicode_utf8_first) ae
 exact ⟨utf8Tabs_of_readsT (ρ:=Dw) Xo Xn (Pe ▸ hf) (MA ▸ ha),⟨Ug (Uf ▸ Lib.laidMet.reads h0 ae),Gv ab ab h5,Gv ab ab h6⟩,SV hsh,SW hsh⟩
def SH:DataW Unit→List Value
 | .lit (.int k z)=>[.int k z]
 | _=>[]
def uT:DataW Unit→List Value
 | .agg l=>l.flatMap SH
 | _=>[]
def SI:DataW Unit→List Value
 | .agg l=>l.flatMap uT
 | _=>[]
def po (l:List Value):Obj→Obj
 | .cells _ t frozen=>.cells l.toArray t frozen
 | o=>o
def Gu (b:Nat):List Value:=[.iface 421 (.pointer (some ⟨b,0,none⟩))]
def Gt (l:List UInt8):Obj:=.cells #[str l] 423 (0,0)
noncomputable def R4 (h:Array Obj):Array Obj :=
 ((((((((h.modify 0 (po (uT Rows.laid_unicode_utf8_first))).modify 1 (po (SI Rows.laid_unicode_utf8_acceptRanges))).modify 3 (po (uT Rows.laid_internal_strconv_uint64pow10))).modify 4 (po (Gu h.size))).modify 5 (po (Gu (h.size+1)))).modify 6 (po (uT Rows.laid_math_bits_deBruijn32tab))).modify 7 (po (uT Rows.laid_math_bits_deBruijn64tab))).push (Gt [105,110,118,97,108,105,100,32,115,121,110,116,97,120])).push (Gt [118,97,108,117,101,32,111,117,116,32,111,102,32,114,97,110,103,101])
noncomputable def Cw (os:Os):World :=
 { World.holding Tryz.prog os ⟨#[],#[],[]⟩ with heap:=R4 (World.holding Tryz.prog os ⟨#[],#[],[]⟩).heap }
end
end Go.Proofs.YtmoiobegbpkkbaaGreatDoor
