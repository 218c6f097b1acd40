import Derived.Test.YtmoiobegbpkkbaaGreatDoorKAL
import Derived.Shelf.Strconv.AtoiAll
import Derived.Shelf.Strconv.Itoa3
import Derived.Lib.AtoiErrMem
import Derived.Lib.AppendIntMem
import Derived.RecoverIn
namespace Go.Proofs.YtmoiobegbpkkbaaGreatDoor
open Go Go.RowKit
set_option maxRecDepth 100000
set_option maxHeartbeats 8000000
section
open Go Go.RowKit Go.Shelf
def vk:Shelf.Ren:=⟨fun x=>if x=129 then 368 else if x=171 then 251 else if x=172 then 318 else if x=205 then 377 else if x=243 then 298 else if x=244 then 344 else if x=245 then 345 else if x=246 then 321 else if x=247 then 362 else if x=279 then 363 else if x=280 then 364 else if x=281 then 365 else if x=282 then 366 else if x=283 then 346 else if x=284 then 347 else if x=285 then 348 else if x=286 then 349 else if x=287 then 375 else if x=316 then 376 else if x=317 then 367 else if x=318 then 369 else if x=319 then 370 else if x=320 then 371 else if x=321 then 380 else if x=322 then 381 else if x=337 then 378 else if x=338 then 379 else x,fun x=>if x=0 then 0 else if x=2 then 2 else if x=3 then 3 else if x=4 then 4 else if x=5 then 5 else if x=9 then 9 else if x=20 then 20 else if x=21 then 21 else if x=37 then 22 else if x=46 then 132 else if x=51 then 321 else if x=53 then 218 else if x=75 then 369 else if x=76 then 370 else if x=80 then 344 else if x=85 then 401 else if x=127 then 420 else if x=143 then 421 else if x=145 then 423 else if x=167 then 400 else if x=168 then 403 else if x=171 then 383 else if x=173 then 386 else if x=175 then 412 else if x=210 then 416 else if x=212 then 407 else if x=213 then 408 else if x=232 then 424 else if x=233 then 425 else x,fun x=>if x=15 then 4 else if x=16 then 5 else if x=17 then 3 else if x=18 then 6 else if x=19 then 7 else x⟩
theorem ye:LaysC.n172 Tryz.prog vk where
 mixed:=ab
 f129:=Tryz.func368.trans (congrArg some ab)
 f171:=Tryz.func251.trans (congrArg some ab)
 f172:=Tryz.func318.trans (congrArg some ab)
 f205:=Tryz.func377.trans (congrArg some ab)
 f243:=Tryz.func298.trans (congrArg some ab)
 f244:=Tryz.func344.trans (congrArg some ab)
 f245:=Tryz.func345.trans (congrArg some ab)
 f246:=Tryz.func321.trans (congrArg some ab)
 f247:=Tryz.func362.trans (congrArg some ab)
 f279:=Tryz.func363.trans (congrArg some ab)
 f280:=Tryz.func364.trans (congrArg some ab)
 f281:=Tryz.func365.trans (congrArg some ab)
 f282:=Tryz.func366.trans (congrArg some ab)
 f283:=Tryz.func346.trans (congrArg some ab)
 f284:=Tryz.func347.trans (congrArg some ab)
 f285:=Tryz.func348.trans (congrArg some ab)
 f286:=Tryz.func349.trans (congrArg some ab)
 f287:=Tryz.func375.trans (congrArg some ab)
 f316:=Tryz.func376.trans (congrArg some ab)
 f317:=Tryz.func367.trans (congrArg some ab)
 f318:=Tryz.func369.trans (congrArg some ab)
 f319:=Tryz.func370.trans (congrArg some ab)
 f320:=Tryz.func371.trans (congrArg some ab)
 f321:=Tryz.func380.trans (congrArg some ab)
 f322:=Tryz.func381.trans (congrArg some ab)
 f337:=Tryz.func378.trans (congrArg some ab)
 f338:=Tryz.func379.trans (congrArg some ab)
 t0:=Tryz.underlying0
 a0:=Tryz.isAgg0
 z0:=Tryz.sizeOf0
 v0:=Tryz.zeroValue0
 t2:=Tryz.underlying2
 a2:=Tryz.isAgg2
 z2:=Tryz.sizeOf2
 v2:=Tryz.zeroValue2
 t3:=Tryz.underlying3
 a3:=Tryz.isAgg3
 z3:=Tryz.sizeOf3
 v3:=Tryz.zeroValue3
 t4:=Tryz.underlying4
 a4:=Tryz.isAgg4
 z4:=Tryz.sizeOf4
 v4:=Tryz.zeroValue4
 t5:=Tryz.underlying5
 a5:=Tryz.isAgg5
 z5:=Tryz.sizeOf5
 v5:=Tryz.zeroValue5
 t9:=Tryz.underlying9
 a9:=Tryz.isAgg9
 z9:=Tryz.sizeOf9
 v9:=Tryz.zeroValue9
 t20:=Tryz.underlying20
 a20:=Tryz.isAgg20
 z20:=Tryz.sizeOf20
 v20:=Tryz.zeroValue20
 t21:=Tryz.underlying21
 a21:=Tryz.isAgg21
 z21:=Tryz.sizeOf21
 v21:=Tryz.zeroValue21
 t37:=Tryz.underlying22
 a37:=Tryz.isAgg22
 z37:=Tryz.sizeOf22
 v37:=Tryz.zeroValue22
 t46:=Tryz.underlying132
 a46:=Tryz.isAgg132
 z46:=Tryz.sizeOf132
 v46:=Tryz.zeroValue132
 t51:=Tryz.underlying321
 a51:=Tryz.isAgg321
 z51:=Tryz.sizeOf321
 v51:=Tryz.zeroValue321
 t53:=Tryz.underlying218
 a53:=Tryz.isAgg218
 z53:=Tryz.sizeOf218
 v53:=Tryz.zeroValue218
 t75:=Tryz.underlying369
 a75:=Tryz.isAgg369
 z75:=Tryz.sizeOf369
 v75:=Tryz.zeroValue369
 t76:=Tryz.underlying370
 a76:=Tryz.isAgg370
 z76:=Tryz.sizeOf370
 v76:=Tryz.zeroValue370
 t85:=Tryz.underlying401
 a85:=Tryz.isAgg401
 z85:=Tryz.sizeOf401
 v85:=Tryz.zeroValue401
 t127:=Tryz.underlying420
 a127:=Tryz.isAgg420
 z127:=Tryz.sizeOf420
 v127:=Tryz.zeroValue420
 t143:=Tryz.underlying421
 a143:=Tryz.isAgg421
 z143:=Tryz.sizeOf421
 v143:=Tryz.zeroValue421
 t145:=Tryz.underlying423
 a145:=Tryz.isAgg423
 z145:=Tryz.sizeOf423
 v145:=Tryz.zeroValue423
 t167:=Tryz.underlying400
 a167:=Tryz.isAgg400
 z167:=Tryz.sizeOf400
 v167:=Tryz.zeroValue400
 t168:=Tryz.underlying403
 a168:=Tryz.isAgg403
 z168:=Tryz.sizeOf403
 v168:=Tryz.zeroValue403
 t171:=Tryz.underlying383
 a171:=Tryz.isAgg383
 z171:=Tryz.sizeOf383
 v171:=Tryz.zeroValue383
 t173:=Tryz.underlying386
 a173:=Tryz.isAgg386
 z173:=Tryz.sizeOf386
 v173:=Tryz.zeroValue386
 t175:=Tryz.underlying412
 a175:=Tryz.isAgg412
 z175:=Tryz.sizeOf412
 v175:=Tryz.zeroValue412
 t210:=Tryz.underlying416
 a210:=Tryz.isAgg416
 z210:=Tryz.sizeOf416
 v210:=Tryz.zeroValue416
 t212:=Tryz.underlying407
 a212:=Tryz.isAgg407
 z212:=Tryz.sizeOf407
 v212:=Tryz.zeroValue407
 t213:=Tryz.underlying408
 a213:=Tryz.isAgg408
 z213:=Tryz.sizeOf408
 t232:=Tryz.underlying424
 a232:=Tryz.isAgg424
 z232:=Tryz.sizeOf424
 v232:=Tryz.zeroValue424
 t233:=Tryz.underlying425
 a233:=Tryz.isAgg425
 z233:=Tryz.sizeOf425
 v233:=Tryz.zeroValue425
 g15:=ab
 g16:=ab
 g17:=ab
 g18:=ab
 g19:=ab
 t80:=Tryz.underlying344
 a80:=Tryz.isAgg344
 z80:=Tryz.sizeOf344
 v80:=Tryz.zeroValue344
 i0:=ab
 i2:=ab
 i3:=ab
 i4:=ab
 i5:=ab
 i9:=ab
 i20:=ab
 i21:=ab
 i37:=ab
 i46:=ab
 i51:=ab
 i53:=ab
 i75:=ab
 i76:=ab
 i80:=ab
 i85:=ab
 i127:=ab
 i143:=ab
 i145:=ab
 i167:=ab
 i168:=ab
 i171:=ab
 i173:=ab
 i175:=ab
 i210:=ab
 i212:=ab
 i232:=ab
 i233:=ab
 m15:=ab
 m16:=ab
 m17:=ab
 m18:=ab
 m19:=ab
 c0:=ab
 c2:=ab
 c3:=ab
 c4:=ab
 c5:=ab
 c9:=ab
 c20:=ab
 c21:=ab
 c37:=ab
 c46:=ab
 c51:=ab
 c53:=ab
 c75:=ab
 c76:=ab
 c80:=ab
 c85:=ab
 c127:=ab
 c143:=ab
 c145:=ab
 c167:=ab
 c168:=ab
 c171:=ab
 c173:=ab
 c175:=ab
 c210:=ab
 c212:=ab
 c213:=ab
 c232:=ab
 c233:=ab
structure jP (V:World):Prop where
 pow:Lib.TabIs Tryz.prog V "internal/strconv.uint64pow10" .u64 Lib.pow10Tab
 es:∃t p,V.cell? ⟨4,0,none⟩=some (.iface t p)
 er:∃t p,V.cell? ⟨5,0,none⟩=some (.iface t p)
theorem KV {P:Program} {V W:World} {n:String} {k:IntKind} {zs:List Int} (h:Lib.TabIs P V n k zs) (hs:Sub V W):Lib.TabIs P W n k zs:=by
 unfold Lib.TabIs World.var? at *
 cases hg:P.globalNamed n with
 | none=>rw [hg] at h;cases h
 | some g =>
  rw [hg] at h
  simp only [Option.bind_some] at h ⊢
  split at h
  ·rename_i cs t f hc
   rw [hs.bt _ _ _ _ hc]
   exact h
  ·cases h
theorem jP.up {V W:World} (h:jP V) (k:Sub V W):jP W:=⟨KV h.pow k,let ⟨t,p,h⟩:=h.es;⟨t,p,k.cell h⟩,let ⟨t,p,h⟩:=h.er;⟨t,p,k.cell h⟩⟩
theorem RY {V W:World} (hV:Sub V W) (hE:jP V) {n:Int} (hn:bI n):aj Tryz.prog 251 [iv n].toArray W fun q w'=>q=str (Lib.itoa n)∧Rel W V [] V w':=by
 have h:=Any.strconv_Itoa (ρ:=vk) { ye with } n hn.1 hn.2 W (KV hE.pow hV)
 exact aj.mT Tryz.func251 ab ab (Calls.iw h fun e w' ⟨he,k,os,hw⟩=>⟨_,he,rfl,by rw [hw];exact (Rel.start hV).ext (Lib.below_grow _ _ (Nat.le_refl _) _ _)⟩)
inductive zM (s:List UInt8):Value→Prop where
 | ok {v:Int} (h:Lib.atoiAll s=.ok v):zM s (.tuple #[iv v,.nilIface])
 | err {a:Int} {t:TypeId} {p:Value} (h:∀v,Lib.atoiAll s≠.ok v):zM s (.tuple #[iv a,.iface t p])
theorem MW {V W:World} (hV:Sub V W) (hE:jP V) {s:List UInt8} (hs:s.length≤100000):aj Tryz.prog 318 [str s].toArray W fun q w'=>zM s q∧Rel W V [] V w':=by
 have hsz:(⟨s.toArray⟩:ByteArray).size=s.length:=rfl
 have hl:(⟨s.toArray⟩:ByteArray).data.toList=s:=rfl
 rcases ha:Lib.atoiAll s with v|_|_
 ·have h:=Any.strconv_Atoi_ok (ρ:=vk) ye ⟨s.toArray⟩ aa v (by rw [hl];exact ha) W
  refine aj.mT Tryz.func318 ab ab (Calls.iw h fun e w' ⟨he,hw⟩=>⟨_,he,.ok ha,?_⟩)
  rcases hw with rfl|⟨t,rfl⟩
  ·exact Rel.start hV
  ·exact (Rel.start hV).ext (Lib.bytesWorld_below _ _ _)
 ·obtain ⟨t,p,hp⟩:=hE.es
  have h:=Any.strconv_Atoi_syntax (ρ:=vk) ye ⟨s.toArray⟩ aa (by rw [hl];exact ha) _ W (hV.cell hp) (.inr ⟨t,p,rfl⟩)
  exact aj.mT Tryz.func318 ab ab (Calls.iw h fun e w' ⟨N,he,_,_,hw⟩=>⟨_,he,.err (fun v h=>by rw [ha] at h;cases h),(Rel.start hV).ext hw⟩)
 ·obtain ⟨t,p,hp⟩:=hE.er
  have h:=Any.strconv_Atoi_range (ρ:=vk) ye ⟨s.toArray⟩ aa (by rw [hl];exact ha) _ W (hV.cell hp) (.inr ⟨t,p,rfl⟩)
  exact aj.mT Tryz.func318 ab ab (Calls.iw h fun e w' ⟨N,he,_,_,hw⟩=>⟨_,he,.err (fun v h=>by rw [ha] at h;cases h),(Rel.start hV).ext hw⟩)
section
variable {w0 V0 V w:World} {own:List ak} {rb N:Nat} {r o:Sl} {hs:List gY} {s:RS}
theorem Jj {c:UInt8} {t0:List UInt8} {i0 k:Nat} (hi:c=45∧i0=1∨c≠45∧i0=0) (h0:i0≤k) (hk:k≤(c::t0).length) (hd:∀x∈((c::t0).take k).drop i0,gb x=true) (he:∀x y,(c::t0).drop k=x::y→gb x=false):oh (c::t0)=(c::t0).take k:=by
 rw [Jh]
 rcases hi with ⟨rfl,rfl⟩|⟨hc,rfl⟩
 ·rw [if_pos rfl]
  obtain ⟨k,rfl⟩:∃j,k=j+1:=⟨k - 1,aa⟩
  rw [List.take_succ_cons] at hd ⊢
  rw [List.drop_succ_cons] at he
  congr 1
  conv=>lhs;rw [←List.take_append_drop k t0]
  exact (KX (fun x hx=>hd x (by simpa using hx)) he).1
 ·rw [if_neg hc]
  conv=>lhs;rw [←List.take_append_drop k (c::t0)]
  exact (KX (fun x hx=>hd x (by simpa using hx)) he).1
theorem Tu (hE:jP V) (H:Rel w0 V0 (cd rb r o hs s++own) V w) (hR:gH N V r hs s) (hN:N≤5000) {c:UInt8} (hc:pk s=some c):aX Tryz.prog 293 [.pointer (some ⟨rb,0,none⟩)].toArray w (fun q w'=>∃v s',og s=some (v,s')∧q=iv v∧mf w0 V0 rb own N V s' (fun _=>True) w') (gX w0 (og s=none)):=by
 have j3:=hR.cnt
 obtain ⟨t0,ht0,htl⟩:=yP hc
 obtain ⟨l,hl⟩:∃l,l=c::t0:=⟨_,rfl⟩
 have hll:l.length=t0.length+1:=by rw [hl];rfl
 have BB:=c.toNat_lt
 obtain ⟨i0,xO,kK⟩:∃i0:Nat,i0≤1∧(c=45∧i0=1∨c≠45∧i0=0):=by
  by_cases h:c=45
  ·exact ⟨1,aa,.inl ⟨h,rfl⟩⟩
  ·exact ⟨0,aa,.inr ⟨h,rfl⟩⟩
 refine nE ad Tryz.func293 rfl ab 79 rfl ae [0,2,3,4,5,6,15,44,66] ?_
 refine aB.cc ad ?_
 refine wk ?_
 refine aB.cc ad ?_
 refine wk ?_
 refine (zn H hR hN).use ?_
 clear H
 rintro v w ⟨rfl,V1,r1,o1,hs1,hV1,dF,_,H⟩
 have hr1:=dF.rest
 rw [show (ei s).rest=s.rest.dropWhile aY from rfl,ht0,←hl] at hr1
 have nV:=hr1.len
 have hc1:=hr1.cap
 obtain ⟨p0,c0⟩:=hr1.aP (g:=bv) (fun _=>rfl) (show 0<l.length by omega)
 have mI:l[0]'(by omega)=c:=by simp [hl]
 rw [mI] at c0
 simp only [cd,List.cons_append,List.nil_append] at H
 refine wk ?_
 refine aB.cc ad ?_
 refine wk ?_
 refine aB.lZ ad (fun _:Unit=>[(0,.pointer (some ⟨rb,0,none⟩)),(3,iv (i0:Int))]) (fun _ w'=>Rel w0 V0 (.al rb [r1.v,iv (((ei s).cnt:Nat):Int),str (ei s).last,o1.v] 303::.row o1 206 2 (hs1.flatMap jh)::own) V1 w') ?_ ?_
 ·rcases kK with ⟨h1,rfl⟩|⟨h1,rfl⟩
  ·have:c.toNat=45:=by rw [h1];rfl
   refine wk ?_
   exact ⟨(),sB,H⟩
  ·have:c.toNat≠45:=fun e=>h1 (UInt8.toNat_inj.1 e)
   refine wk ?_
   exact ⟨(),sB,H⟩
 clear H
 rintro _ w H
 refine aB.lZ ad (fun k:Nat=>[(0,.pointer (some ⟨rb,0,none⟩)),(3,iv (k:Int))]) (fun k w'=>(k≤l.length∧oh l=l.take k)∧Rel w0 V0 (.al rb [r1.v,iv (((ei s).cnt:Nat):Int),str (ei s).last,o1.v] 303::.row o1 206 2 (hs1.flatMap jh)::own) V1 w') ?_ ?_
 ·refine wk ?_
  refine aB.cut 0 (fun k:Nat=>[(0,.pointer (some ⟨rb,0,none⟩)),(3,iv (k:Int))]) (fun k w'=>(k≤l.length∧oh l=l.take k)∧Rel w0 V0 (.al rb [r1.v,iv (((ei s).cnt:Nat):Int),str (ei s).last,o1.v] 303::.row o1 206 2 (hs1.flatMap jh)::own) V1 w') ?_ ?_
  ·refine aK (S:=Nat) ad [0,2,4,5,6,15,66] (fun k=>[(3,iv (k:Int))]) (fun k w'=>(i0≤k∧k≤l.length∧∀x∈(l.take k).drop i0,gb x=true)∧Rel w0 V0 (.al rb [r1.v,iv (((ei s).cnt:Nat):Int),str (ei s).last,o1.v] 303::.row o1 206 2 (hs1.flatMap jh)::own) V1 w') (fun k _=>l.length - k) i0 ?_
   conv=>whnf
   refine ⟨sB,⟨⟨Nat.le_refl _,aa,fun x hx=>by rw [List.drop_eq_nil_of_le (by simp;omega)] at hx;simp at hx⟩,H⟩,?_⟩
   clear H
   rintro k w ⟨⟨h0,hk,hd⟩,H⟩
   by_cases hlt:k<l.length
   rotate_left
   ·refine wk ?_
    refine ⟨k,sB,⟨hk,?_⟩,H⟩
    rw [hl]
    rw [hl] at hd hlt
    exact Jj kK h0 (by rw [←hl];exact hk) hd fun x y h=>by
     rw [List.drop_eq_nil_of_le aa] at h
     cases h
   ·obtain ⟨p1,c1⟩:=hr1.aP (g:=bv) (fun _=>rfl) hlt
    obtain ⟨x,hx⟩:∃x,x=l[k]:=⟨_,rfl⟩
    rw [←hx] at c1
    have uJ:=x.toNat_lt
    by_cases eA:48≤x.toNat∧x.toNat≤57
    ·refine wk ?_
     refine ⟨sB,k+1,sB,⟨⟨aa,aa,fun y hy=>?_⟩,H⟩,aa⟩
     rw [List.take_succ_eq_append_getElem hlt,←hx,List.drop_append_of_le_length (by simp;omega)] at hy
     rcases List.mem_append.1 hy with hy|hy
     ·exact hd y hy
     ·simp only [List.mem_singleton] at hy
      rw [hy]
      simp [gb,eA]
    ·have stop:oh l=l.take k:=by
      have hxl:∀z y,l.drop k=z::y→gb z=false:=fun z y h=>by
       rw [List.drop_eq_getElem_cons hlt] at h
       cases h
       rw [←hx]
       simp only [gb,Bool.and_eq_false_iff,decide_eq_false_iff_not]
       omega
      rw [hl] at hd hxl hk ⊢
      exact Jj kK h0 hk hd hxl
     by_cases BW:48≤x.toNat
     ·refine wk ?_
      exact ⟨k,sB,⟨hk,stop⟩,H⟩
     ·refine wk ?_
      exact ⟨k,sB,⟨hk,stop⟩,H⟩
  ·clear H
   rintro k w ⟨hk,H⟩
   refine wk ?_
   exact ⟨k,sB,hk,H⟩
 clear H
 rintro k w ⟨⟨hk,Q2⟩,H⟩
 have hcut:=hr1.tk (k:=k) hk
 refine aB.cc ad ?_
 refine wk ?_
 refine ⟨l.take k,by rw [List.length_take,Int.toNat_natCast];omega,fm _ ▸ (hcut.up H.data).cells,?_⟩
 refine wk ?_
 have e:og s=match lj (l.take k) with
  | none=>none
  | some v=>some (v,{ ei s with rest:=l.drop k }):=by
  unfold og
  rw [ht0,←hl,Q2]
  cases lj (l.take k) with
  | none=>rfl
  | some v =>
   dsimp only
   rw [List.length_take,Nat.min_eq_left hk]
 refine aB.cc ad ?_
 refine wk ?_
 refine (MW H.data (hE.up hV1) (s:=l.take k) (by rw [List.length_take];omega)).use ?_
 rintro v w ⟨hat,K⟩
 (replace H:=H.aq K)
 cases hat with
 | @err a t p hno =>
  have hn:lj (l.take k)=none:=by
   unfold lj
   split
   ·rename_i v hv
    exact absurd hv (hno v)
   ·rfl
  rw [hn] at e
  refine wk ?_
  refine aB.cc ad ?_
  refine wk ?_
  refine kV ?_
  refine wk ?_
  exact ⟨e,rfl,H.base⟩
 | @ok z hz =>
  refine wk ?_
  refine aB.cc ad ?_
  refine wk ?_
  refine (RY H.data (hE.up hV1) (Lib.atoiAll_bounds hz)).use ?_
  rintro v w ⟨rfl,K⟩
  (replace H:=H.aq K)
  by_cases hit:Lib.itoa z=l.take k
  ·have hn:lj (l.take k)=some z:=by
    unfold lj
    rw [hz]
    simp only
    rw [if_pos hit]
   rw [hn] at e
   have hd:=hr1.dr (k:=k) hk
   have bS:1≤k:=by
    rcases Nat.eq_zero_or_pos k with h|h
    ·exfalso
     rw [h,List.take_zero] at hit
     obtain ⟨c,r,hc,_⟩:=Cu z
     rw [hc] at hit
     cases hit
    ·exact h
   refine wk ?_
   refine Ay (by rw [decide_eq_true hit];rfl) ?_
   refine wk ?_
   refine aB.cc ad ?_
   refine H.wg ?_;clear H;intro w H
   refine aB.cc ad ?_
   refine wk ?_
   refine aB.go ad ?_
   refine wk ?_
   refine ⟨z,_,e,rfl,V1,_,o1,hs1,hV1,⟨hd,dF.dt,?_,dF.ol⟩,trivial,H⟩
   show s.cnt+1+(l.drop k).length≤N
   rw [List.length_drop]
   omega
  ·have hn:lj (l.take k)=none:=by
    unfold lj
    rw [hz]
    simp only
    rw [if_neg hit]
   rw [hn] at e
   refine wk ?_
   refine NS (by rw [decide_eq_false hit];rfl) ?_
   refine wk ?_
   refine kV ?_
   refine wk ?_
   exact ⟨e,rfl,H.base⟩
end
end
theorem cY.lt {s s':RS} {L:BL} {v:ah} (h:cY s L s') (hL:L.map Prod.snd=fC v) (hv:gm v):s'.rest.length<s.rest.length:=by
 have h1:=congrArg List.length h.rest
 have h2:=GM L
 have h3:=IH hv
 rw [hL] at h2
 rw [List.length_append] at h1
 omega
theorem zm {c:UInt8} {s s':RS} (h:gD c s=some s'):s'.rest.length<s.rest.length:=by
 have h1:=congrArg List.length (vx h).rest
 simp only [fq,List.flatMap_cons,List.flatMap_nil,List.length_append,List.length_cons,List.length_nil] at h1
 omega
theorem Jb {s s':RS} {x:List UInt8} (h:lP s=some (x,s')):s'.rest.length<s.rest.length:=by
 obtain ⟨h0,hx⟩:=Jc h
 have h1:=congrArg List.length h0.rest
 obtain ⟨c,r,hc,_⟩:=CJ hx
 simp only [fq,List.flatMap_cons,List.flatMap_nil,List.length_append,List.length_nil,hc,List.length_cons] at h1
 omega
theorem Gg {f:iE} (hf:oV f) {k:Int} {x y:EL} (h:eX f k x=some y):y.2.1.length=x.2.1.length+1∧y.2.2.rest.length<x.2.2.rest.length∧y.1.length≤x.1.length+1:=by
 have key:∀ns ps s,jn f ns ps s=some y→y.2.1.length=ps.length+1∧y.2.2.rest.length<s.rest.length∧y.1=ns:=by
  intro ns ps s h
  unfold jn at h
  split at h
  ·cases h
  ·rename_i v s' hv
   cases h
   obtain ⟨L,h1,h2,h3⟩:=hf _ _ _ hv
   exact ⟨ae,h1.lt h2 h3,rfl⟩
 unfold eX at h
 split at h
 ·split at h
  ·cases h
  ·rename_i nm s1 h1
   split at h
   ·cases h
   ·rename_i s2 h2
    obtain ⟨a,b,c⟩:=key _ _ _ h
    have:=Jb h1
    have:=zm h2
    refine ⟨a,aa,by rw [c];simp⟩
 ·obtain ⟨a,b,c⟩:=key _ _ _ h
  exact ⟨a,b,by rw [c];omega⟩
abbrev ny (vb:Nat) (k:Int) (ns ps:Sl) (nms:List (List UInt8)) (vh:List VH):List ak:=[.al vb [iv k,iv 0,.slice none 0 0,ns.v,ps.v] 27,.row ns 9 1 (nms.flatMap oK),.row ps 27 5 (vh.flatMap br)]
structure je (w0 V0:World) (rb vb:Nat) (k:Int) (own:List ak) (N:Nat) (V:World) (x:EL) (w:World):Prop where
 ex:∃(V':World) (r o:Sl) (hs:List gY) (ns ps:Sl) (vh:List VH),Sub V V'∧gH N V' r hs x.2.2∧Pw bc V' vh x.2.1∧Rel w0 V0 (cd rb r o hs x.2.2++(ny vb k ns ps x.1 vh++own)) V' w
theorem lp (V V':World) (x:VH) (y:ah) (hs:Sub V V') (h:bc V x y):bc V' x y:=h.up hs
section
variable {w0 V0 V w:World} {own:List ak} {rb vb N:Nat} {k:Int} {x:EL}
theorem je.JB (h:je w0 V0 rb vb k own N V x w) (hN:N≤5000):aX Tryz.prog 286 [.pointer (some ⟨rb,0,none⟩)].toArray w (fun q w'=>(∃c,pk x.2.2=some c∧q=bv c)∧je w0 V0 rb vb k own N V x w') (gX w0 (pk x.2.2=none)):=by
 obtain ⟨V',r,o,hs,ns,ps,vh,h1,h2,h3,H⟩:=h
 exact aX.mono (yM H h2 hN) (fun q w' ⟨h4,H⟩=>⟨h4,V',r,o,hs,ns,ps,vh,h1,h2,h3,H⟩) (fun ch w' h=>h)
theorem je.sign (h:je w0 V0 rb vb k own N V x w) (hN:N≤5000) {c:UInt8} (hc:c.toNat<128):aX Tryz.prog 292 [.pointer (some ⟨rb,0,none⟩),bv c].toArray w (fun q w'=>q=.tuple #[]∧∃s',gD c x.2.2=some s'∧je w0 V0 rb vb k own N V (x.1,x.2.1,s') w') (gX w0 (gD c x.2.2=none)):=by
 obtain ⟨V',r,o,hs,ns,ps,vh,h1,h2,h3,H⟩:=h
 refine aX.mono (Kz H h2 hN hc) (fun q w' ⟨hq,s',hs',V2,r2,o2,bM,hV2,cz,_,H⟩=>⟨hq,s',hs',V2,r2,o2,bM,ns,ps,vh,h1.trans hV2,cz,h3.up lp hV2,H⟩) (fun ch w' h=>h)
def zP (w0 V0:World) (rb vb:Nat) (k:Int) (own:List ak) (N:Nat) (g:FuncId) (cap:List Value) (f:iE) (n:Nat) (U:World):Prop :=
 ∀(V w:World) (x:EL),Sub U V→je w0 V0 rb vb k own N V x w→x.2.2.rest.length<n→x.2.1.length+x.2.2.rest.length≤5000→x.1.length≤x.2.1.length →
  aX Tryz.prog g cap.toArray w (fun q w'=>q=.tuple #[]∧∃y,eX f k x=some y∧je w0 V0 rb vb k own N V y w') (gX w0 (eX f k x=none))
theorem IP {f:iE} {n:Nat} {g:FuncId} {cap:List Value} {U:World} {s:RS} (hf:oV f) (hel:zP w0 V0 rb vb k own N g cap f n U) (hU:Sub U V) (hS:je w0 V0 rb vb k own N V ([],[],s) w) (hn:s.rest.length<n+1) (hl:s.rest.length≤5000) (hN:N≤5000)
  {op en:UInt8} (hop:op=if k=4 then 123 else 91) (hen:en=if k=4 then 125 else 93):aX Tryz.prog 288 [.pointer (some ⟨rb,0,none⟩),bv op,bv en,.func (.func g) #[] cap.toArray].toArray w (fun q w'=>q=.tuple #[]∧∃y,lO f k s=some y∧je w0 V0 rb vb k own N V y w') (gX w0 (lO f k s=none)):=by
 have Q5:op.toNat<128:=by rw [hop];split<;>decide
 have xE:en.toNat<128:=by rw [hen];split<;>decide
 have e:lO f k s=match gD op s with
  | none=>none
  | some s=>match pk s with
   | none=>none
   | some c=>if c=en then iF en ([],[],s) else match eX f k ([],[],s) with
    | none=>none
    | some y=>match lN f k (y.2.2.rest.length+1) y with
     | none=>none
     | some z=>iF en z:=by unfold lO;rw [←hop,←hen];rfl
 rw [e]
 refine nE ad Tryz.func288 rfl ab 27 rfl ae [0,1,2,3,14,19] ?_
 refine aB.cc ad ?_
 conv=>whnf
 refine aX.mono (hS.sign hN Q5) ?_ (fun ch w' h=>h.mono fun h=>by dsimp only at h;rw [h])
 clear hS
 rintro v w ⟨rfl,s1,hs1,hS⟩
 dsimp only at hs1 hS
 have nV:=zm hs1
 rw [hs1]
 dsimp only
 obtain ⟨full,cU⟩:∃full:Option EL,full=match pk s1 with
   | none=>none
   | some c=>if c=en then iF en ([],[],s1) else match eX f k ([],[],s1) with
    | none=>none
    | some y=>match lN f k (y.2.2.rest.length+1) y with
     | none=>none
     | some z=>iF en z:=⟨_,rfl⟩
 rw [←cU]
 conv=>whnf
 refine aB.lZ ad (fun _:EL=>[(0,.pointer (some ⟨rb,0,none⟩)),(2,bv en)]) (fun z w'=>full=iF en z∧je w0 V0 rb vb k own N V z w') ?_ ?_
 ·conv=>whnf
  refine aX.mono (hS.JB hN) ?_ (fun ch w' h=>h.mono fun h=>by dsimp only at h;rw [cU,h])
  clear hS
  rintro v w ⟨⟨c,hc,rfl⟩,hS⟩
  dsimp only at hc
  rw [hc] at cU
  conv=>whnf
  refine dw (fun hne=>?_) (fun heq=>?_)
  rotate_left
  ·obtain rfl:c=en:=UInt8.toNat_inj.1 aa
   conv=>whnf
   exact ⟨rfl,([],[],s1),sB,by rw [cU];exact if_pos rfl,hS⟩
  ·have QX:¬c=en:=fun e=>hne (by rw [e])
   replace cU:full=match eX f k ([],[],s1) with
    | none=>none
    | some y=>match lN f k (y.2.2.rest.length+1) y with
     | none=>none
     | some z=>iF en z:=by rw [cU];exact if_neg QX
   conv=>whnf
   refine aX.mono (hel V w ([],[],s1) hU hS (by dsimp only;omega) (by dsimp only [List.length_nil];omega) (Nat.le_refl _)) ?_ (fun ch w' h=>h.mono fun h=>by rw [cU,h])
   clear hS
   rintro v w ⟨rfl,y,hy,hS⟩
   obtain ⟨g1,g2,g3⟩:=Gg hf hy
   dsimp only [List.length_nil] at g1 g2 g3
   rw [hy] at cU
   dsimp only at cU
   conv=>whnf
   refine aB.cut 0 (fun _:EL=>[(0,.pointer (some ⟨rb,0,none⟩)),(2,bv en)]) (fun z w'=>full=iF en z∧je w0 V0 rb vb k own N V z w') ?_ ?_
   ·refine aK (S:=EL) ad [0,1,2,3,14] (fun _=>[]) (fun z w'=>(∃m,z.2.2.rest.length<m∧full=match lN f k m z with
      | none=>none
      | some z=>iF en z)∧(z.2.2.rest.length<n∧z.2.1.length+z.2.2.rest.length≤5000∧z.1.length≤z.2.1.length)∧je w0 V0 rb vb k own N V z w') (fun z _=>z.2.2.rest.length) y ?_
    conv=>whnf
    refine ⟨sB,⟨⟨_,Nat.lt_succ_self _,cU⟩,⟨aa,aa,aa⟩,hS⟩,?_⟩
    clear hS cU
    rintro z w ⟨⟨m,hm,cU⟩,⟨l1,l2,l3⟩,hS⟩
    cases m with
    | zero=>omega
    | succ m =>
    rw [lN] at cU
    conv=>whnf
    refine aX.mono (hS.JB hN) ?_ (fun ch w' h=>h.mono fun h=>by rw [cU,h])
    clear hS
    rintro v w ⟨⟨c,hc,rfl⟩,hS⟩
    rw [hc] at cU
    dsimp only at cU
    by_cases Bm:c=44
    ·subst Bm
     rw [if_pos rfl] at cU
     conv=>whnf
     refine aX.mono (hS.sign hN (c:=44) ag) ?_ (fun ch w' h=>h.mono fun h=>by rw [cU,h])
     clear hS
     rintro v w ⟨rfl,s2,bM,hS⟩
     have q1:=zm bM
     rw [bM] at cU
     dsimp only at cU
     conv=>whnf
     refine aX.mono (hel V w (z.1,z.2.1,s2) hU hS (by dsimp only;omega) (by dsimp only;omega) l3) ?_ (fun ch w' h=>h.mono fun h=>by rw [cU,h])
     clear hS
     rintro v w ⟨rfl,y2,x9,hS⟩
     obtain ⟨q2,q3,q4⟩:=Gg hf x9
     dsimp only at q2 q3 q4
     rw [x9] at cU
     dsimp only at cU
     conv=>whnf
     exact ⟨rfl,sB,y2,sB,⟨⟨m,aa,cU⟩,⟨aa,aa,aa⟩,hS⟩,aa⟩
    ·rw [if_neg Bm] at cU
     have YC:c.toNat≠44:=fun e=>Bm (UInt8.toNat_inj.1 e)
     conv=>whnf
     refine dw (fun h=>absurd h aa) (fun _=>?_)
     conv=>whnf
     exact ⟨rfl,z,sB,cU,hS⟩
   ·clear hS
    rintro z w ⟨hz,hS⟩
    conv=>whnf
    exact ⟨rfl,z,sB,hz,hS⟩
 clear hS
 rintro z w ⟨hz,hS⟩
 refine aB.go ad ?_
 conv=>whnf
 unfold iF at hz
 refine aX.mono (hS.sign hN xE) ?_ (fun ch w' h=>h.mono fun h=>by rw [hz,h])
 clear hS
 rintro v w ⟨rfl,s2,bM,hS⟩
 rw [bM] at hz
 conv=>whnf
 exact ⟨rfl,_,hz,hS⟩
end
structure bG (a:Addr) (u:Value) (b:Addr) (v:Value) (w w':World):Prop where
 fst:w.cell? a=some u→w'.cell? a=some u
 snd:w.cell? b=some v→w'.cell? b=some v
theorem bG.trans {a b:Addr} {u v:Value} {x y z:World} (h:bG a u b v x y) (k:bG a u b v y z):bG a u b v x z:=⟨fun q=>k.fst (h.fst q),fun q=>k.snd (h.snd q)⟩
theorem bG.go {w0 V0 V w w':World} {own:List ak} {n o:Nat} {b:Addr} {u v:Value} {p:Prop} (H:Rel w0 V0 own V w') (hb:V.cell? b=some v) (hp:p) (hm:∃(i:Nat) (c:List Value) (t:TypeId),own[i]?=some (.al n c t)∧c[o]?=some u:=by first|exact ⟨2,_,_,rfl,rfl⟩|exact ⟨3,_,_,rfl,rfl⟩|exact ⟨4,_,_,rfl,rfl⟩):bG ⟨n,o,none⟩ u b v w w'∧p :=
 let ⟨_,_,_,hi,hc⟩:=hm;⟨⟨fun _=>H.Al hi hc,fun _=>H.q9 hb⟩,hp⟩
theorem bG.ld {w0 V0 V w w1:World} {own:List ak} {n o:Nat} {b:Addr} {u v:Value} (H:Rel w0 V0 own V w) (hb:V.cell? b=some v) (hk:bG ⟨n,o,none⟩ u b v w w1) (hm:∃(i:Nat) (c:List Value) (t:TypeId),own[i]?=some (.al n c t)∧c[o]?=some u:=by first|exact ⟨2,_,_,rfl,rfl⟩|exact ⟨3,_,_,rfl,rfl⟩|exact ⟨4,_,_,rfl,rfl⟩):w1.cell? ⟨n,o,none⟩=some u∧w1.cell? b=some v :=
 let ⟨_,_,_,hi,hc⟩:=hm;⟨hk.fst (H.Al hi hc),hk.snd (H.q9 hb)⟩
def zU (n:Nat):Prop:=∀(w0 V0 V w:World) (own:List ak) (rb N:Nat) (r o:Sl) (hs:List gY) (s:RS),jP V→Rel w0 V0 (cd rb r o hs s++own) V w→gH N V r hs s→N≤5000→s.rest.length<n →
 aX Tryz.prog 244 [.pointer (some ⟨rb,0,none⟩)].toArray w (fun q w'=>∃v s' h,du n s=some (v,s')∧q=fG h∧mf w0 V0 rb own N V s' (fun U=>bc U h v) w') (gX w0 (du n s=none))
theorem Dx:∀ {c:List Value} {o:Nat} {l:List Value} {k:List Value→Prop},o+l.length≤c.length→k (c.take o++(l++c.drop (o+l.length)))→cW c o l k
 | [],0,[],k,_,h=>h
 | [],0,_::_,k,hl,_=>by simp at hl
 | [],o+1,l,k,hl,_=>by simp at hl
 | u::c,0,[],k,_,h=>by simpa [cW] using h
 | u::c,0,v::l,k,hl,h=>by
  rw [cW]
  simp only [List.length_cons,Nat.zero_add] at hl h
  refine Dx (c:=c) (o:=0) (l:=l) aa ?_
  simpa [Nat.add_comm] using h
 | u::c,o+1,l,k,hl,h=>by
  rw [cW]
  simp only [List.length_cons] at hl
  refine Dx (c:=c) (o:=o) (l:=l) aa ?_
  simpa [show o+1+l.length=o+l.length+1 by omega] using h
theorem Rel.oI {w0 V0 V w:World} {own:List ak} (H:Rel w0 V0 own V w) {i sz:Nat} {s:Sl} {e:TypeId} {xs:List Value} (hi:own[i]?=some (.row s e sz xs)) (j:Nat) {l:List Value} (hj:j+l.length≤s.len*sz) {b o:Nat} (hb:b=aN s.a) (ho:o=aI s.a+j) (h0:l≠[]) {k:World→Prop}
  (hk:∀w',Rel w0 V0 (own.set i (.row s e sz (xs.take j++(l++xs.drop (j+l.length))))) V w'→k w'):∃c t',jd w b c t'∧cW c o l fun c'=>∀w',hC w b c' t' w'→k w':=by
 have hr:=H.rowAt hi
 have nV:1≤l.length:=by
  cases l with
  | nil=>exact absurd rfl h0
  | cons x y=>simp
 rcases hr.at_ with ⟨_,h2,_⟩|⟨b0,cur,h1,h2,h3,h4,h5,h6⟩
 ·rw [h2,Nat.zero_mul] at hj;omega
 ·rw [h1] at hb ho
  simp only [aN,aI,Nat.zero_add] at hb ho
  subst hb ho
  have hbl:jd w b cur.toList e:=h2
  have hle:=Nat.mul_le_mul_right sz h3
  have hcl:cur.toList.length=s.cap*sz:=by rw [Array.length_toList,h5]
  refine ⟨cur.toList,e,hbl,Dx aa fun w' hu=>hk w' ?_⟩
  have hu':=hu
  have hxl:=hr.len
  have hnl:(cur.toList.take o++(l++cur.toList.drop (o+l.length))).length=cur.size:=by
   simp only [List.length_append,List.length_take,List.length_drop,hcl,h5]
   omega
  obtain ⟨fz,cs,oa,rfl⟩:=hu.wd
  refine H.put hi rfl rfl rfl ae (fun k _ hk=>hu'.other fun e=>hk (by rw [e];simp [ak.at_,h1])) ⟨?_,.inr ⟨b,(cur.toList.take o++(l++cur.toList.drop (o+l.length))).toArray,h1,hu'.row hbl (by simpa using hnl),h3,h4,by simpa [h5] using hnl,?_⟩⟩ fun k hk=>.inl hk
  ·simp only [List.length_append,List.length_take,List.length_drop,hxl]
   omega
  ·rw [←h6]
   show (cur.toList.take o++(l++cur.toList.drop (o+l.length))).take (s.len*sz)=_
   rw [List.take_append,List.take_append,List.length_take,List.take_of_length_le (l:=cur.toList.take o) (by rw [List.length_take];omega),List.take_of_length_le (l:=l) aa,List.take_take,Nat.min_eq_left aa,List.drop_take]
   rw [Nat.min_eq_left aa,show s.len*sz - o - l.length=s.len*sz - (o+l.length) by omega]
theorem oR (vh:List VH) (h:VH):((vh++[cw]).flatMap br).take (vh.length*5)++(br h++((vh++[cw]).flatMap br).drop (vh.length*5+(br h).length))=(vh++[h]).flatMap br:=by
 have hl:(vh.flatMap br).length=vh.length*5:=jZ (n:=5) (fun _=>rfl) vh
 rw [List.flatMap_append,List.flatMap_append,←hl,List.take_left,←List.drop_drop,List.drop_left]
 simp
section
variable {w0 V0 V w:World} {own:List ak} {rb vb b1 N n:Nat} {U:World}
theorem OC (ih:zU n) (hE:jP U) (hN:N≤5000) (rF:U.cell? ⟨b1,0,none⟩=some (.pointer (some ⟨rb,0,none⟩))):zP w0 V0 rb vb 3 own N 289 [.pointer (some ⟨vb,0,none⟩),.pointer (some ⟨b1,0,none⟩)] (du n) n U:=by
 intro V w x hU hS hlt nV hl2
 obtain ⟨V1,r,o,hs,ns,ps,vh,hV1,hR,hP,H⟩:=hS
 have xz:=(hU.trans hV1).cell rF
 have x5:=hP.len
 simp only [cd,ny,List.cons_append,List.nil_append] at H
 have hpl:=H.dz (i:=4) rfl (fun _=>rfl) ag
 refine eV Tryz.func289 11 [0,1] ?_
 (first|refine fo (id:=0) ad mixed (bG ⟨vb,4,none⟩ ps.v ⟨b1,0,none⟩ (.pointer (some ⟨rb,0,none⟩))) (fun _ _ _=>bG.trans) [3,5] [1,2] [0,1,2,4,3,5,6,7,9,8,10] [(3,[]),(5,[]),(6,[3,5]),(8,[3,5,6]),(10,[3,5,6])] ab ?_);intro w aG;replace H:=Rel.ext H aG.ext
 have bad:du n x.2.2=none→eX (du n) 3 x=none:=fun h=>by unfold eX jn;rw [if_neg ag,h]
 have good:∀v s,du n x.2.2=some (v,s)→eX (du n) 3 x=some (x.1,x.2.1++[v],s):=fun v s h=>by unfold eX jn;rw [if_neg ag,h]
 repeat' (refine wk ?_;(first|refine bG.go H (by assumption) ?_|(refine And.intro (fun w1 hkp=>?_) ?_;focus (obtain ⟨bS,eN⟩:=bG.ld H (by assumption) hkp;(repeat ((conv=>whnf);first|refine an ?_|refine ea ?_|refine ol ?_));(conv=>whnf);all_goals (first|exact ⟨rfl,rfl⟩|exact rfl)))|refine And.intro ?_ ?_|(refine H.nA ?_;clear H;intro w _ H)))
 ·conv=>whnf
  refine aX.mono (ih _ _ _ _ _ _ _ _ _ _ _ (hE.up (hU.trans hV1)) H hR hN hlt) ?_ (fun ch w' h=>h.mono bad)
  clear H
  rintro v w ⟨v1,s',h1,aL,rfl,V2,r2,o2,bM,hV2,cz,jy,H⟩
  have BA:=hV2.cell xz
  simp only [cd,ny,List.cons_append,List.nil_append] at H
  repeat' (refine wk ?_;(first|refine bG.go H (by assumption) ?_|(refine And.intro (fun w1 hkp=>?_) ?_;focus (obtain ⟨bS,eN⟩:=bG.ld H (by assumption) hkp;(repeat ((conv=>whnf);first|refine an ?_|refine ea ?_|refine ol ?_));(conv=>whnf);all_goals (first|exact ⟨rfl,rfl⟩|exact rfl)))|refine And.intro ?_ ?_|(refine H.nA ?_;clear H;intro w _ H)))
  conv=>whnf
  have hps:=H.dz (i:=5) rfl (fun _=>rfl) ag
  refine Rel.mm (f:=br) (s:=ps) (l:=vh) (x:=cw) ad rfl rfl rfl rfl rfl ag (fun _=>rfl) (by simp [Value.oneCell']) H (i:=4) rfl (by show (vh.length+1)*88≤_;omega) aa ?_
  clear H
  intro k6 w H
  simp only [List.set_cons_succ,List.set_cons_zero] at H
  have im:=H.dz (i:=4) rfl (fun _=>rfl) ag
  rw [List.length_append,List.length_singleton] at im
  obtain ⟨B7,pU⟩:=(H.dO (i:=4) rfl (fun _=>rfl) ag).get (n:=5) (fun _=>rfl) ag (i:=vh.length) ae
  repeat' ((first|(refine H.sT ?_;clear H;intros;rename_i w H;constructor)|refine wk ?_);(first|refine bG.go H (by assumption) ?_|(refine And.intro (fun w1 hkp=>?_) ?_;focus (obtain ⟨bS,eN⟩:=bG.ld H (by assumption) hkp;(repeat ((conv=>whnf);first|refine an ?_|refine ea ?_|refine ol ?_));(conv=>whnf);all_goals (first|exact ⟨rfl,rfl⟩|exact rfl)))|refine And.intro ?_ ?_|(refine H.nA ?_;clear H;intro w _ H)))
  ·conv=>whnf
   refine Rel.oI (i:=4) H rfl (vh.length*5) (by rw [im];show vh.length*5+5≤(vh.length+1)*5;omega) rfl (by rw [hps];simp [placeOf]) (by simp [Value.cells]) ?_
   clear H
   intro w H
   simp only [List.set_cons_succ,List.set_cons_zero] at H
   rw [oR] at H
   refine H.wh ?_;clear H;intro w H
   exact ⟨(x.1,x.2.1++[v1],s'),(good _ _ aL),V2,r2,o2,bM,ns,k6,vh++[h1],(hV1.trans hV2),cz,((hP.up lp hV2).snoc jy),H⟩
  ·refine H.wh ?_;clear H;intro w H
   refine Rel.oI (i:=4) H rfl (vh.length*5) (by rw [im];show vh.length*5+5≤(vh.length+1)*5;omega) rfl (by rw [hps];simp [placeOf]) (by simp [Value.cells]) ?_
   clear H
   intro w H
   simp only [List.set_cons_succ,List.set_cons_zero] at H
   rw [oR] at H
   refine wk ?_
   exact ⟨(x.1,x.2.1++[v1],s'),(good _ _ aL),V2,r2,o2,bM,ns,k6,vh++[h1],(hV1.trans hV2),cz,((hP.up lp hV2).snoc jy),H⟩
 ·conv=>whnf
  replace H:=H.sA
  refine aX.mono (ih _ _ _ _ _ _ _ _ _ _ _ (hE.up (hU.trans hV1)) H hR hN hlt) ?_ (fun ch w' h=>h.mono bad)
  clear H
  rintro v w ⟨v1,s',h1,aL,rfl,V2,r2,o2,bM,hV2,cz,jy,H⟩
  have BA:=hV2.cell xz
  simp only [cd,ny,List.cons_append,List.nil_append] at H
  repeat' (refine wk ?_;(first|refine bG.go H (by assumption) ?_|(refine And.intro (fun w1 hkp=>?_) ?_;focus (obtain ⟨bS,eN⟩:=bG.ld H (by assumption) hkp;(repeat ((conv=>whnf);first|refine an ?_|refine ea ?_|refine ol ?_));(conv=>whnf);all_goals (first|exact ⟨rfl,rfl⟩|exact rfl)))|refine And.intro ?_ ?_|(refine H.nA ?_;clear H;intro w _ H)))
  conv=>whnf
  replace H:=H.Ea
  have hps:=H.dz (i:=5) rfl (fun _=>rfl) ag
  refine Rel.mm (f:=br) (s:=ps) (l:=vh) (x:=cw) ad rfl rfl rfl rfl rfl ag (fun _=>rfl) (by simp [Value.oneCell']) H (i:=4) rfl (by show (vh.length+1)*88≤_;omega) aa ?_
  clear H
  intro k6 w H
  simp only [List.set_cons_succ,List.set_cons_zero] at H
  have im:=H.dz (i:=4) rfl (fun _=>rfl) ag
  rw [List.length_append,List.length_singleton] at im
  obtain ⟨B7,pU⟩:=(H.dO (i:=4) rfl (fun _=>rfl) ag).get (n:=5) (fun _=>rfl) ag (i:=vh.length) ae
  repeat' ((first|(refine H.sT ?_;clear H;intros;rename_i w H;constructor)|refine wk ?_);(first|refine bG.go H (by assumption) ?_|(refine And.intro (fun w1 hkp=>?_) ?_;focus (obtain ⟨bS,eN⟩:=bG.ld H (by assumption) hkp;(repeat ((conv=>whnf);first|refine an ?_|refine ea ?_|refine ol ?_));(conv=>whnf);all_goals (first|exact ⟨rfl,rfl⟩|exact rfl)))|refine And.intro ?_ ?_|(refine H.nA ?_;clear H;intro w _ H)))
  ·conv=>whnf
   refine Rel.oI (i:=4) H rfl (vh.length*5) (by rw [im];show vh.length*5+5≤(vh.length+1)*5;omega) rfl (by rw [hps];simp [placeOf]) (by simp [Value.cells]) ?_
   clear H
   intro w H
   simp only [List.set_cons_succ,List.set_cons_zero] at H
   rw [oR] at H
   refine H.wh ?_;clear H;intro w H
   exact ⟨(x.1,x.2.1++[v1],s'),(good _ _ aL),V2,r2,o2,bM,ns,k6,vh++[h1],(hV1.trans hV2),cz,((hP.up lp hV2).snoc jy),H⟩
  ·refine H.wh ?_;clear H;intro w H
   refine Rel.oI (i:=4) H rfl (vh.length*5) (by rw [im];show vh.length*5+5≤(vh.length+1)*5;omega) rfl (by rw [hps];simp [placeOf]) (by simp [Value.cells]) ?_
   clear H
   intro w H
   simp only [List.set_cons_succ,List.set_cons_zero] at H
   rw [oR] at H
   refine wk ?_
   exact ⟨(x.1,x.2.1++[v1],s'),(good _ _ aL),V2,r2,o2,bM,ns,k6,vh++[h1],(hV1.trans hV2),cz,((hP.up lp hV2).snoc jy),H⟩
theorem OD (ih:zU n) (hE:jP U) (hN:N≤5000) (rF:U.cell? ⟨b1,0,none⟩=some (.pointer (some ⟨rb,0,none⟩))):zP w0 V0 rb vb 4 own N 290 [.pointer (some ⟨vb,0,none⟩),.pointer (some ⟨b1,0,none⟩)] (du n) n U:=by
 intro V w x hU hS hlt nV hl2
 obtain ⟨V1,r,o,hs,ns,ps,vh,hV1,hR,hP,H⟩:=hS
 have xz:=(hU.trans hV1).cell rF
 have x5:=hP.len
 have e:eX (du n) 4 x=match lP x.2.2 with
   | none=>none
   | some (nm,s)=>match gD 58 s with
    | none=>none
    | some s=>jn (du n) (x.1++[nm]) x.2.1 s:=by unfold eX;rw [if_pos rfl];rfl
 simp only [cd,ny,List.cons_append,List.nil_append] at H
 refine eV Tryz.func290 20 [0,1] ?_
 (first|refine fo (id:=0) ad mixed (bG ⟨vb,3,none⟩ ns.v ⟨b1,0,none⟩ (.pointer (some ⟨rb,0,none⟩))) (fun _ _ _=>bG.trans) [3,4] [1] [0,1,2,3,4,5,6,7] [(3,[]),(4,[3]),(5,[3,4]),(7,[3,4,5])] ab ?_|refine fo (id:=2) ad mixed (bG ⟨vb,3,none⟩ ns.v ⟨b1,0,none⟩ (.pointer (some ⟨rb,0,none⟩))) (fun _ _ _=>bG.trans) [3,5] [1,2] [0,1,2,4,3,5,6,7,9,8,10] [(3,[]),(5,[]),(6,[3,5]),(8,[3,5,6]),(10,[3,5,6])] ab ?_);intro w aG;replace H:=Rel.ext H aG.ext
 repeat' (refine wk ?_;(first|refine bG.go H (by assumption) ?_|(refine And.intro (fun w1 hkp=>?_) ?_;focus (obtain ⟨bS,eN⟩:=bG.ld H (by assumption) hkp;(repeat ((conv=>whnf);first|refine an ?_|refine ea ?_|refine ol ?_));(conv=>whnf);all_goals (first|exact ⟨rfl,rfl⟩|exact rfl)))|refine And.intro ?_ ?_|(refine H.nA ?_;clear H;intro w _ H)))
 refine wk ?_
 refine aX.mono (Te H hR hN) ?_ (fun ch w' h=>h.mono fun h=>by rw [e,h])
 clear H
 rintro v w ⟨nm,s1,xS,rfl,V2,r2,o2,bM,hV2,cz,_,H⟩
 rw [xS] at e
 dsimp only at e
 have q1:=Jb xS
 have BA:=hV2.cell xz
 simp only [cd,ny,List.cons_append,List.nil_append] at H
 repeat' (refine wk ?_;(first|refine bG.go H (by assumption) ?_|(refine And.intro (fun w1 hkp=>?_) ?_;focus (obtain ⟨bS,eN⟩:=bG.ld H (by assumption) hkp;(repeat ((conv=>whnf);first|refine an ?_|refine ea ?_|refine ol ?_));(conv=>whnf);all_goals (first|exact ⟨rfl,rfl⟩|exact rfl)))|refine And.intro ?_ ?_|(refine H.nA ?_;clear H;intro w _ H)))
 conv=>whnf
 refine Rel.mm (f:=oK) (s:=ns) (l:=x.1) (x:=nm) ad rfl rfl rfl rfl rfl ag (fun _=>rfl) (by simp [Value.oneCell']) H (i:=3) rfl (by show (x.1.length+1)*16≤_;omega) aa ?_
 clear H
 intro yw w H
 simp only [List.set_cons_succ,List.set_cons_zero] at H
 repeat' ((refine H.wh ?_;clear H;intro w H);(first|refine bG.go H (by assumption) ?_|(refine And.intro (fun w1 hkp=>?_) ?_;focus (obtain ⟨bS,eN⟩:=bG.ld H (by assumption) hkp;(repeat ((conv=>whnf);first|refine an ?_|refine ea ?_|refine ol ?_));(conv=>whnf);all_goals (first|exact ⟨rfl,rfl⟩|exact rfl)))|refine And.intro ?_ ?_|(refine H.nA ?_;clear H;intro w _ H)))
 refine H.wh ?_;clear H;intro w H
 refine aX.mono (Kz (c:=58) H cz hN ag) ?_ (fun ch w' h=>h.mono fun h=>by rw [e,h])
 clear H
 rintro v w ⟨rfl,s2,bM,V3,r3,o3,Ch,ar,pw,_,H⟩
 rw [bM] at e
 dsimp only at e
 have q2:=zm bM
 have Ht:=ar.cell BA
 have rE:=(hV1.trans hV2).trans ar
 simp only [cd,List.cons_append,List.nil_append] at H
 have bad:du n s2=none→eX (du n) 4 x=none:=fun h=>by rw [e];unfold jn;rw [h]
 have good:∀v s,du n s2=some (v,s)→eX (du n) 4 x=some (x.1++[nm],x.2.1++[v],s):=fun v s h=>by rw [e];unfold jn;rw [h]
 have hP3:=(hP.up lp hV2).up lp ar
 refine wk ?_
 (first|refine fo (id:=0) ad mixed (bG ⟨vb,4,none⟩ ps.v ⟨b1,0,none⟩ (.pointer (some ⟨rb,0,none⟩))) (fun _ _ _=>bG.trans) [3,4] [1] [0,1,2,3,4,5,6,7] [(3,[]),(4,[3]),(5,[3,4]),(7,[3,4,5])] ab ?_|refine fo (id:=2) ad mixed (bG ⟨vb,4,none⟩ ps.v ⟨b1,0,none⟩ (.pointer (some ⟨rb,0,none⟩))) (fun _ _ _=>bG.trans) [3,5] [1,2] [0,1,2,4,3,5,6,7,9,8,10] [(3,[]),(5,[]),(6,[3,5]),(8,[3,5,6]),(10,[3,5,6])] ab ?_);intro w aG;replace H:=Rel.ext H aG.ext
 repeat' (refine wk ?_;(first|refine bG.go H (by assumption) ?_|(refine And.intro (fun w1 hkp=>?_) ?_;focus (obtain ⟨bS,eN⟩:=bG.ld H (by assumption) hkp;(repeat ((conv=>whnf);first|refine an ?_|refine ea ?_|refine ol ?_));(conv=>whnf);all_goals (first|exact ⟨rfl,rfl⟩|exact rfl)))|refine And.intro ?_ ?_|(refine H.nA ?_;clear H;intro w _ H)))
 ·conv=>whnf
  refine aX.mono (ih _ _ _ _ _ _ _ _ _ _ _ (hE.up (hU.trans rE)) H pw hN aa) ?_ (fun ch w' h=>h.mono bad)
  clear H
  rintro v w ⟨v1,s',h1,aL,rfl,V2,r2,o2,bM,hV2,cz,jy,H⟩
  have Qh:=hV2.cell Ht
  simp only [cd,List.cons_append,List.nil_append] at H
  repeat' (refine wk ?_;(first|refine bG.go H (by assumption) ?_|(refine And.intro (fun w1 hkp=>?_) ?_;focus (obtain ⟨bS,eN⟩:=bG.ld H (by assumption) hkp;(repeat ((conv=>whnf);first|refine an ?_|refine ea ?_|refine ol ?_));(conv=>whnf);all_goals (first|exact ⟨rfl,rfl⟩|exact rfl)))|refine And.intro ?_ ?_|(refine H.nA ?_;clear H;intro w _ H)))
  conv=>whnf
  have hps:=H.dz (i:=5) rfl (fun _=>rfl) ag
  refine Rel.mm (f:=br) (s:=ps) (l:=vh) (x:=cw) ad rfl rfl rfl rfl rfl ag (fun _=>rfl) (by simp [Value.oneCell']) H (i:=4) rfl (by show (vh.length+1)*88≤_;omega) aa ?_
  clear H
  intro k6 w H
  simp only [List.set_cons_succ,List.set_cons_zero] at H
  have im:=H.dz (i:=4) rfl (fun _=>rfl) ag
  rw [List.length_append,List.length_singleton] at im
  obtain ⟨B7,pU⟩:=(H.dO (i:=4) rfl (fun _=>rfl) ag).get (n:=5) (fun _=>rfl) ag (i:=vh.length) ae
  repeat' ((first|(refine H.sT ?_;clear H;intros;rename_i w H;constructor)|refine wk ?_);(first|refine bG.go H (by assumption) ?_|(refine And.intro (fun w1 hkp=>?_) ?_;focus (obtain ⟨bS,eN⟩:=bG.ld H (by assumption) hkp;(repeat ((conv=>whnf);first|refine an ?_|refine ea ?_|refine ol ?_));(conv=>whnf);all_goals (first|exact ⟨rfl,rfl⟩|exact rfl)))|refine And.intro ?_ ?_|(refine H.nA ?_;clear H;intro w _ H)))
  ·conv=>whnf
   refine Rel.oI (i:=4) H rfl (vh.length*5) (by rw [im];show vh.length*5+5≤(vh.length+1)*5;omega) rfl (by rw [hps];simp [placeOf]) (by simp [Value.cells]) ?_
   clear H
   intro w H
   simp only [List.set_cons_succ,List.set_cons_zero] at H
   rw [oR] at H
   refine H.wh ?_;clear H;intro w H
   exact ⟨(x.1++[nm],x.2.1++[v1],s'),(good _ _ aL),V2,r2,o2,bM,yw,k6,vh++[h1],(rE.trans hV2),cz,((hP3.up lp hV2).snoc jy),H⟩
  ·refine H.wh ?_;clear H;intro w H
   refine Rel.oI (i:=4) H rfl (vh.length*5) (by rw [im];show vh.length*5+5≤(vh.length+1)*5;omega) rfl (by rw [hps];simp [placeOf]) (by simp [Value.cells]) ?_
   clear H
   intro w H
   simp only [List.set_cons_succ,List.set_cons_zero] at H
   rw [oR] at H
   refine wk ?_
   exact ⟨(x.1++[nm],x.2.1++[v1],s'),(good _ _ aL),V2,r2,o2,bM,yw,k6,vh++[h1],(rE.trans hV2),cz,((hP3.up lp hV2).snoc jy),H⟩
 ·conv=>whnf
  replace H:=H.sA
  refine aX.mono (ih _ _ _ _ _ _ _ _ _ _ _ (hE.up (hU.trans rE)) H pw hN aa) ?_ (fun ch w' h=>h.mono bad)
  clear H
  rintro v w ⟨v1,s',h1,aL,rfl,V2,r2,o2,bM,hV2,cz,jy,H⟩
  have Qh:=hV2.cell Ht
  simp only [cd,List.cons_append,List.nil_append] at H
  repeat' (refine wk ?_;(first|refine bG.go H (by assumption) ?_|(refine And.intro (fun w1 hkp=>?_) ?_;focus (obtain ⟨bS,eN⟩:=bG.ld H (by assumption) hkp;(repeat ((conv=>whnf);first|refine an ?_|refine ea ?_|refine ol ?_));(conv=>whnf);all_goals (first|exact ⟨rfl,rfl⟩|exact rfl)))|refine And.intro ?_ ?_|(refine H.nA ?_;clear H;intro w _ H)))
  conv=>whnf
  replace H:=H.Ea
  have hps:=H.dz (i:=5) rfl (fun _=>rfl) ag
  refine Rel.mm (f:=br) (s:=ps) (l:=vh) (x:=cw) ad rfl rfl rfl rfl rfl ag (fun _=>rfl) (by simp [Value.oneCell']) H (i:=4) rfl (by show (vh.length+1)*88≤_;omega) aa ?_
  clear H
  intro k6 w H
  simp only [List.set_cons_succ,List.set_cons_zero] at H
  have im:=H.dz (i:=4) rfl (fun _=>rfl) ag
  rw [List.length_append,List.length_singleton] at im
  obtain ⟨B7,pU⟩:=(H.dO (i:=4) rfl (fun _=>rfl) ag).get (n:=5) (fun _=>rfl) ag (i:=vh.length) ae
  repeat' ((first|(refine H.sT ?_;clear H;intros;rename_i w H;constructor)|refine wk ?_);(first|refine bG.go H (by assumption) ?_|(refine And.intro (fun w1 hkp=>?_) ?_;focus (obtain ⟨bS,eN⟩:=bG.ld H (by assumption) hkp;(repeat ((conv=>whnf);first|refine an ?_|refine ea ?_|refine ol ?_));(conv=>whnf);all_goals (first|exact ⟨rfl,rfl⟩|exact rfl)))|refine And.intro ?_ ?_|(refine H.nA ?_;clear H;intro w _ H)))
  ·conv=>whnf
   refine Rel.oI (i:=4) H rfl (vh.length*5) (by rw [im];show vh.length*5+5≤(vh.length+1)*5;omega) rfl (by rw [hps];simp [placeOf]) (by simp [Value.cells]) ?_
   clear H
   intro w H
   simp only [List.set_cons_succ,List.set_cons_zero] at H
   rw [oR] at H
   refine H.wh ?_;clear H;intro w H
   exact ⟨(x.1++[nm],x.2.1++[v1],s'),(good _ _ aL),V2,r2,o2,bM,yw,k6,vh++[h1],(rE.trans hV2),cz,((hP3.up lp hV2).snoc jy),H⟩
  ·refine H.wh ?_;clear H;intro w H
   refine Rel.oI (i:=4) H rfl (vh.length*5) (by rw [im];show vh.length*5+5≤(vh.length+1)*5;omega) rfl (by rw [hps];simp [placeOf]) (by simp [Value.cells]) ?_
   clear H
   intro w H
   simp only [List.set_cons_succ,List.set_cons_zero] at H
   rw [oR] at H
   refine wk ?_
   exact ⟨(x.1++[nm],x.2.1++[v1],s'),(good _ _ aL),V2,r2,o2,bM,yw,k6,vh++[h1],(rE.trans hV2),cz,((hP3.up lp hV2).snoc jy),H⟩
end
theorem LI:∀n,zU n
 | 0=>fun w0 V0 V w own rb N r o hs s hE H hR hN hlt=>absurd hlt (Nat.not_lt_zero _)
 | n+1=>fun w0 V0 V w own rb N r o hs s hE H hR hN hlt=>by
  have ih:=LI n
  have j3:=hR.cnt
  simp only [cd,List.cons_append,List.nil_append] at H
  refine eV Tryz.func244 33 [0,1,2,3,4,5,8,14,22] ?_
  refine wk ?_
  refine H.nA ?_;clear H;intro w b1 H
  obtain ⟨V1,hV1,H,gN⟩:=H.bJ
  have rF:V1.cell? ⟨b1,0,none⟩=some (.pointer (some ⟨rb,0,none⟩)):=gN.bt rfl
  have dF:=hR.up hV1
  refine wk ?_
  refine H.nA ?_;clear H;intro w b2 H
  replace H:=H.sA
  refine wk ?_
  refine aX.mono (yM H dF hN) ?_ (fun ch w' h=>h.mono fun h=>by rw [du,h])
  clear H
  rintro v w ⟨⟨c,hc,rfl⟩,H⟩
  have BB:=c.toNat_lt
  have e:du (n+1) s=if c=34 then (nk s).map fun x=>(.mk 2 0 x.1 [] [],x.2)
   else if c=91 then (lO (du n) 3 s).map fun x=>(.mk 3 0 [] x.1 x.2.1,x.2.2)
   else if c=123 then (lO (du n) 4 s).map fun x=>(.mk 4 0 [] x.1 x.2.1,x.2.2)
   else (og s).map fun x=>(.mk 1 x.1 [] [] [],x.2):=by rw [du,hc]
  simp only [cd,List.cons_append,List.nil_append] at H
  by_cases dh:c=34
  ·subst dh
   refine wk ?_
   refine aX.mono (WJ H dF hN hc) ?_ (fun ch w' h=>h.mono fun h=>by rw [e,if_pos rfl,h];rfl)
   clear H
   rintro v w ⟨b,s',p,Ro,rfl,V2,r2,o2,bM,hV2,cz,hp,H⟩
   simp only [cd,List.cons_append,List.nil_append] at H
   refine H.wg ?_;clear H;intro w H
   exact ⟨.mk 2 0 b [] [],s',eU p,by rw [e,if_pos rfl,Ro];rfl,rfl,V2,r2,o2,bM,hV1.trans hV2,cz,qB hp,H.sx⟩
  have Yv:c.toNat≠34:=fun e=>dh (UInt8.toNat_inj.1 e)
  by_cases xo:c=91
  ·subst xo
   refine wk ?_
   refine H.nA ?_;clear H;intro w b4 H
   refine H.wg ?_;clear H;intro w H
   replace H:=H.sA
   have H3:=((H.bw 9 1).perm (List.perm_middle (l₁:=[_,_,_])).symm)
   have H4:=((H3.bw 27 5).perm (List.perm_middle (l₁:=[_,_,_,_])).symm)
   clear H H3
   refine aX.mono (IP (n:=n) (f:=du n) (rb:=rb) (vb:=b4) (k:=3) (own:=.al b2 [iv 0,iv 0,.slice none 0 0,.slice none 0 0,.slice none 0 0] 27::own) (N:=N) (U:=V1) (V:=V1) (s:=s) (y0 n) (OC ih (hE.up hV1) hN rF) (Sub.refl _) ⟨V1,r,o,hs,⟨none,0,0⟩,⟨none,0,0⟩,[],Sub.refl _,dF,Pw.nil,H4⟩ aa aa hN rfl rfl) ?_ (fun ch w' h=>h.mono fun h=>by rw [e];rw [if_neg ag,if_pos rfl];rw [h];rfl)
   clear H4
   rintro v w ⟨rfl,y,hy,V2,r2,o2,bM,ns,ps,vh,hV2,cz,hP,H⟩
   simp only [cd,ny,List.cons_append,List.nil_append] at H
   refine H.wg ?_;clear H;intro w H
   replace H:=H.perm (List.perm_middle (l₁:=[_,_,_,_]))
   obtain ⟨V3,ar,H,hps⟩:=H.aJ (fun _=>rfl) ag
   replace H:=H.perm (List.perm_middle (l₁:=[_,_,_]))
   obtain ⟨V4,av,H,hns⟩:=H.aJ (fun _=>rfl) ag
   refine ⟨.mk 3 0 [] y.1 y.2.1,y.2.2,⟨3,0,⟨none,0,0⟩,ns,ps⟩,?_,rfl,V4,r2,o2,bM,(hV1.trans hV2).trans (ar.trans av),cz.up (ar.trans av),?_,H.sx⟩
   ·rw [e];rw [if_neg ag,if_pos rfl];rw [hy];rfl
   ·exact .mk vh rfl rfl (aw.nil _ _) hns (hps.up av) hP.len fun i x p h1 h2=>(hP.all i x p h1 h2).up (ar.trans av)
  have Yw:c.toNat≠91:=fun e=>xo (UInt8.toNat_inj.1 e)
  by_cases xm:c=123
  ·subst xm
   refine wk ?_
   refine H.nA ?_;clear H;intro w b4 H
   refine H.wg ?_;clear H;intro w H
   replace H:=H.sA
   have H3:=((H.bw 9 1).perm (List.perm_middle (l₁:=[_,_,_])).symm)
   have H4:=((H3.bw 27 5).perm (List.perm_middle (l₁:=[_,_,_,_])).symm)
   clear H H3
   refine aX.mono (IP (n:=n) (f:=du n) (rb:=rb) (vb:=b4) (k:=4) (own:=.al b2 [iv 0,iv 0,.slice none 0 0,.slice none 0 0,.slice none 0 0] 27::own) (N:=N) (U:=V1) (V:=V1) (s:=s) (y0 n) (OD ih (hE.up hV1) hN rF) (Sub.refl _) ⟨V1,r,o,hs,⟨none,0,0⟩,⟨none,0,0⟩,[],Sub.refl _,dF,Pw.nil,H4⟩ aa aa hN rfl rfl) ?_ (fun ch w' h=>h.mono fun h=>by rw [e];rw [if_neg ag,if_neg ag,if_pos rfl];rw [h];rfl)
   clear H4
   rintro v w ⟨rfl,y,hy,V2,r2,o2,bM,ns,ps,vh,hV2,cz,hP,H⟩
   simp only [cd,ny,List.cons_append,List.nil_append] at H
   refine H.wg ?_;clear H;intro w H
   replace H:=H.perm (List.perm_middle (l₁:=[_,_,_,_]))
   obtain ⟨V3,ar,H,hps⟩:=H.aJ (fun _=>rfl) ag
   replace H:=H.perm (List.perm_middle (l₁:=[_,_,_]))
   obtain ⟨V4,av,H,hns⟩:=H.aJ (fun _=>rfl) ag
   refine ⟨.mk 4 0 [] y.1 y.2.1,y.2.2,⟨4,0,⟨none,0,0⟩,ns,ps⟩,?_,rfl,V4,r2,o2,bM,(hV1.trans hV2).trans (ar.trans av),cz.up (ar.trans av),?_,H.sx⟩
   ·rw [e];rw [if_neg ag,if_neg ag,if_pos rfl];rw [hy];rfl
   ·exact .mk vh rfl rfl (aw.nil _ _) hns (hps.up av) hP.len fun i x p h1 h2=>(hP.all i x p h1 h2).up (ar.trans av)
  have Yu:c.toNat≠123:=fun e=>xm (UInt8.toNat_inj.1 e)
  refine wk ?_
  refine aX.mono (Tu (hE.up hV1) H dF hN hc) ?_ (fun ch w' h=>h.mono fun h=>by rw [e,if_neg dh,if_neg xo,if_neg xm,h];rfl)
  clear H
  rintro v w ⟨z,s',Q1,rfl,V2,r2,o2,bM,hV2,cz,_,H⟩
  simp only [cd,List.cons_append,List.nil_append] at H
  refine H.wg ?_;clear H;intro w H
  exact ⟨.mk 1 z [] [] [],s',gz z,by rw [e,if_neg dh,if_neg xo,if_neg xm,Q1];rfl,rfl,V2,r2,o2,bM,hV1.trans hV2,cz,sO _ z,H.sx⟩
theorem Sat.fw {env:Env} {tm:Array Value} {d:Nat} {v:Value} (h:Sat env tm) (hd:∀t u,get? env t=some u→t≠d):Sat env (tm.setIfInBounds d v):=by
 intro t u hu
 rw [Array.getElem?_setIfInBounds_ne (fun e=>hd t u hu e.symm)]
 exact h t u hu
def CN (env:Env) (l:List Oper):Bool:=l.all fun o=>match o.dst with|none=>true|some d=>env.all fun p=>p.1 != d
theorem Jd {env:Env} {d:Nat} (h:(env.all fun p=>p.1 != d)=true):∀t u,get? env t=some u→t≠d:=by
 induction env with
 | nil=>intro t u hu;simp [get?] at hu
 | cons p r ih =>
  obtain ⟨s,x⟩:=p
  simp only [List.all_cons,Bool.and_eq_true] at h
  intro t u hu
  rcases xj hu with ⟨rfl,_⟩|hu
  ·simpa using h.1
  ·exact ih h.2 t u hu
theorem Sat.JO {env:Env} {a:Act} {o:Oper} {v:Value} (h:Sat env a.tmps) (hd:(match o.dst with|none=>true|some d=>env.all fun p=>p.1 != d)=true):Sat env (a.put o.dst v).tmps:=by
 cases ho:o.dst with
 | none=>exact h
 | some d =>
  rw [ho] at hd
  exact h.fw (Jd hd)
theorem Eu {C:Cx} (hT:aQ C.P C.T) {env0:Env} {ops:List Oper} {Q:Exit→Act→World→Prop} {K:Env→World→Prop} {Z:List PanicEntry→World→Prop} {ds:List Deferred}
  (hQ:∀env (a:Act) w,Sat env a.tmps→a.tmps.size=C.n→a.defers=ds→K env w→Q .normal a w) (hZ:∀(a:Act) w ch,Sat env0 a.tmps→a.tmps.size=C.n→a.defers=ds→Z ch w→Q (.panic ch) a w) :
  ∀ {l:List Oper} {env:Env} {a:Act} {w:World},CN env0 l=true→Sat env0 a.tmps→Sat env a.tmps→a.tmps.size=C.n→a.defers=ds→qD C ops l env w K Z→wpListIn (Fr C.r) 0 C.P ops.toArray Q l a w
 | [],env,a,w,_,_,hs,hn,hd,h=>hQ env a w hs hn hd h
 | o::rest,env,a,w,hno,h0,hs,hn,hd,h=>by
  unfold CN at hno
  rw [List.all_cons,Bool.and_eq_true] at hno
  unfold wpListIn
  rw [LQ] at h
  rcases rC h hs with ⟨hw,au,hs',h'⟩|⟨hw,au,hs',h'⟩
  ·rw [if_pos hw]
   refine qF hT hs' h' (fun v w' hk=>?_) (fun ch w' hz=>hZ a w' ch h0 hn hd hz)
   obtain ⟨bQ,h1,h2,h3,h4⟩:=gV hk hs' hn
   exact Eu hT hQ hZ hno.2 (h0.JO hno.1) h1 h2 (h3.trans hd) h4
  ·rw [if_neg (by simp [hw])]
   refine ⟨fun _ _=>trivial,?_⟩
   obtain ⟨bQ,h1,h2,h3,h4⟩:=gV h' hs' hn
   exact Eu hT hQ hZ hno.2 (h0.JO hno.1) h1 h2 (h3.trans hd) h4
theorem UR {C:Cx} (hT:aQ C.P C.T) (env0:Env) {id:Nat} {ops:Array Oper} {env:Env} {ds:List Deferred} {w:World} {Q:dU} (hno:CN env0 ops.toList=true) (h0:kq env env0)
  (h:qD C ops.toList ops.toList env w (fun au w'=>iT au C.live fun e'=>Q .normal e' ds w') (fun ch w'=>Q (.panic ch) env0 ds w')):aB C (.region id ops false) env ds w Q:=by
 refine ⟨fun a hs hn hd=>?_⟩
 refine wpIn_region_list ?_
 have:=Eu (ops:=ops.toList) (ds:=ds) hT (env0:=env0) (Q:=fun e a' w'=>a'.tmps.size=C.n∧∃au,Sat au a'.tmps∧Q e au a'.defers w') (fun au a' w' h1 h2 h3 h4=>?_) (fun a' w' ch h1 h2 h3 h4=>?_) hno (fun t v ht=>hs t v (l5 h0 t v ht)) hs hn hd h
 ·simpa using this
 ·obtain ⟨e',h5,h6⟩:=lU h4
  exact ⟨h2,e',fun t v ht=>h1 t v (h5 t v ht),h3 ▸ h6⟩
 ·exact ⟨h2,env0,h1,h3 ▸ h4⟩
theorem UQ {C:Cx} (hT:aQ C.P C.T) (hr:C.r=none) {id g d:Nat} {o1 o2:Oper} {cap:Array Operand} {env:Env} {ds:List Deferred} {w:World} {Q:dU}
  (h1:o1.op=.makeFunc (.func g) #[] cap) (g1:o1.guard=none) (d1:o1.dst=some d) (h2:o2.op=.defer ⟨.value (.tmp d),#[],#[]⟩) (g2:o2.guard=none) (d2:o2.dst=none) (hd:d<C.n)
  (h:eT env cap.toList fun vs=>Q .normal env ({ target:=.fn (.func g) vs.toArray,args:=#[] }::ds) w) (hno:(env.all fun p=>p.1 != d)=true):aB C (.region id #[o1,o2] false) env ds w Q:=by
 refine ⟨fun a hs hn hdf=>?_⟩
 refine wpIn_region_list ?_
 have hv:iB C o1.op o1.type env w (fun v w'=>(∃vs:List Value,v=.func (.func g) #[] vs.toArray∧Q .normal env ({ target:=.fn (.func g) vs.toArray,args:=#[] }::ds) w')∧w'=w) (fun _ _=>False):=by
  rw [h1]
  have key:∀(l:List Operand) (k:List Value→Prop) (k':List Value→Prop),(∀vs,k vs→k' vs)→eT env l k→eT env l k':=by
   intro l
   induction l with
   | nil=>exact fun k k' hk h=>hk _ h
   | cons x l ih =>
    intro k k' hk h
    cases x with
    | tmp t =>
     obtain ⟨v,h3,h4⟩:=nM.1 h
     exact nM.2 ⟨v,h3,ih _ _ (fun vs=>hk _) h4⟩
    | const v=>exact ih _ _ (fun vs=>hk _) h
    | global g=>exact ih _ _ (fun vs=>hk _) h
    | func f=>exact ih _ _ (fun vs=>hk _) h
  exact key cap.toList _ _ (fun vs hq=>⟨⟨vs,rfl,hq⟩,rfl⟩) h
 show wpListIn (Fr C.r) 0 C.P #[o1,o2] _ [o1,o2] a w
 unfold wpListIn
 rw [if_pos (by simp [Region.wanted,g1])]
 refine qF hT hs hv (fun v w' hk=>?_) (fun ch w' hz=>hz.elim)
 obtain ⟨⟨vs,rfl,hq⟩,rfl⟩:=hk
 unfold wpListIn
 rw [if_pos (by simp [Region.wanted,g2])]
 refine ⟨fun _ _=>trivial,?_⟩
 have e:(Fr C.r).round=none:=by show C.r=none;exact hr
 have ev:(a.put o1.dst (.func (.func g) #[] vs.toArray)).eval (.tmp d)=.func (.func g) #[] vs.toArray:=by
  rw [d1]
  have:d<a.tmps.size:=by rw [hn];exact hd
  simp [Act.eval,Act.put,Array.getD_eq_getD_getElem?,this]
 rw [e,Oper.semAt_none]
 simp only [execOp,h2,resolve,ev,Deferred.ofValue,Sem.run_bind,Sem.run_pure,Result.andThen_ok]
 rw [Oper.uponIn_defer]
 have em:#[]++Array.map (a.put o1.dst (.func (.func g) #[] vs.toArray)).eval #[]=#[]:=ae
 rw [em,d1,d2]
 refine wpListIn_nil ⟨by simp [Act.put,hn],env,hs.fw (Jd hno),?_⟩
 have:(({ a.put (some d) (.func (.func g) #[] vs.toArray) with defers:={ target:=.fn (.func g) vs.toArray,args:=#[] }::(a.put (some d) (.func (.func g) #[] vs.toArray)).defers }:Act).put none undef).defers={ target:=.fn (.func g) vs.toArray,args:=#[] }::ds:=by
  simp [Act.put,hdf]
 rw [this]
 exact hq
theorem Nr {P:Program} {T:List TD} (hT:aQ P T) {f g:FuncId} {fn:Func} {c:Code} {args:List Value} {w:World} {K:Value→World→Prop}
  (hf:P.funcs[f]?=some fn) (hb:fn.body=some c) (hname:(fn.name == "runtime.NumGoroutine")=false) (n:Nat) (hn:fn.ntmps=n) (ha:args.length≤n) (live:List Nat) (hg:Enters P g)
  (h:aB ⟨P,T,n,live,none⟩ c (hK 0 args) [] w fun e env ds w=>∃cap:List Value,ds=[{ target:=.fn (.func g) cap.toArray,args:=#[] }]∧match e with
   | .ret=>CallsDIn (Fr none) 0 P g cap.toArray .returning w fun e u' w'=>(∃v,e=.returned v)∧u'=.returning∧lW ⟨P,T,n,live,none⟩ fn.results.toList env w' fun v=>K v w'
   | .panic ch=>∃x,ch=[{ v:=x,recovered:=false }]∧CallsDIn (Fr none) 0 P g cap.toArray (.panicking [{ v:=x,recovered:=false }]) w fun e u' w'=>(∃v,e=.returned v)∧u'=.panicking [{ v:=x,recovered:=true }]∧lW ⟨P,T,n,live,none⟩ fn.results.toList env w' fun v=>K v w'
   | _=>False):aj P f args.toArray w K:=by
 refine ⟨.inl ⟨ph hf (by simp [hb]) hname,(tn (r:=none) (n:=0)).1 ?_⟩⟩
 refine callsIn_of_wp_marks hf hb trivial ?_
 have hs:Sat (hK 0 args) (args.toArray++Array.replicate (fn.ntmps - args.toArray.size) undef):=wm
 refine wpIn_mono (h.out { tmps:=args.toArray++Array.replicate (fn.ntmps - args.toArray.size) undef,defers:=[] } hs (by simp;omega) rfl) ?_
 rintro e a w' ⟨h1,au,h2,cap,fI,h3⟩
 have hinv:∀w,(invoke (.fn (.func g) cap.toArray) #[]).run P w=.ok (.enter g cap.toArray) w:=by
  intro w
  have:=hg cap.toArray w
  simpa [invoke] using this
 have fin:∀ {w'},(lW ⟨P,T,n,live,none⟩ fn.results.toList au w' fun v=>K v w')→∃v,(results fn a.tmps).run P w'=.ok v w'∧K v w':=by
  intro w' h
  exact zb (C:=⟨P,T,n,live,none⟩) hT h2 h
 cases e with
 | ret =>
  show LeavesInM _ _ _ _ _ _ a.defers _ _
  rw [fI]
  refine ⟨ae,.inr ⟨fun h=>by simp [Fr,Fence.wide] at h,_,_,g,cap.toArray,rfl,hinv w',fun _ _=>trivial,h3.mono ?_⟩⟩
  rintro e u' nq ⟨⟨v,rfl⟩,rfl,hk⟩
  obtain ⟨v,hr,hk⟩:=fin hk
  exact ⟨v,hr,hk⟩
 | panic ch =>
  obtain ⟨x,rfl,h3⟩:=h3
  show LeavesInM _ _ _ _ _ _ a.defers _ _
  rw [fI]
  refine ⟨ae,.inr ⟨fun h=>by simp [Fr,Fence.wide] at h,_,_,g,cap.toArray,rfl,hinv w',fun _ _=>trivial,h3.mono ?_⟩⟩
  rintro e u' nq ⟨⟨v,rfl⟩,rfl,hk⟩
  obtain ⟨v,hr,hk⟩:=fin hk
  exact ⟨v,hr,hk⟩
 | normal=>exact h3.elim
 | exit id=>exact h3.elim
 | goto l=>exact h3.elim
 | outgrown=>exact h3.elim
theorem J8 {C:Cx} (hT:aQ C.P C.T) (hr:C.r=none) {f:FuncId} {fn:Func} {args:List Value} {id t u:Nat} {o1 o2:Oper} {x:Code} {m m':FrameMode} {v:Value} {w:World} {R:Ending→FrameMode→World→Prop}
  (hf:C.P.funcs[f]?=some fn) (hb:fn.body=some (.seq (.region id #[o1,o2] false) x)) (hn:fn.ntmps=C.n) (hl:args.length≤C.n)
  (h1:∀(a:Act) (w:World),(execOp a.eval o1).run C.P w=.ok .recover w) (g1:o1.guard=none) (d1:o1.dst=some t) (h2:o2.op=.assign (.tmp t)) (g2:o2.guard=none) (d2:o2.dst=some u) (ht:t<C.n) (hu:u<C.n)
  (hm:∀(kE:Frame) cs,kE.mode=m→(recoverD (kE::cs)=some (v,{ kE with mode:=m' }::cs))∨(recoverD (kE::cs)=none∧v=.nilIface∧m'=m))
  (h:aB C x ((u,v)::(t,v)::hK 0 args) [] w fun e env ds w=>ds=[]∧(match e with
   | .normal=>lW C fn.results.toList env w fun q=>R (.returned q) m' w
   | _=>False)):CallsDIn (Fr none) 0 C.P f args.toArray m w R:=by
 refine callsDIn_of_wpSIn hf hb trivial ?_
 intro kE cs H5
 refine wpSIn_seq ?_
 refine wpSIn_region ?_
 have hs:Sat (hK 0 args) (args.toArray++Array.replicate (fn.ntmps - args.toArray.size) undef):=wm
 generalize ha:({ tmps:=args.toArray++Array.replicate (fn.ntmps - args.toArray.size) undef,defers:=[] }:Act)=a
 have hs:Sat (hK 0 args) a.tmps:=by rw [←ha];exact hs
 have hz:a.tmps.size=C.n:=by rw [←ha];simp;omega
 have hd:a.defers=[]:=by rw [←ha]
 show wpOpsSIn _ _ _ _ _ [0,1] _ _ _
 have w1:Region.wanted o1 (yielded #[o1,o2] a.tmps)=true:=by simp [Region.wanted,g1]
 have key:∀AB,AB={ kE with mode:=m' }::cs→wpOpsSIn (Fr none) 0 C.P #[o1,o2] (Exit.thenS (x.wpSIn (Fr none) 0 C.P (bodyPostS C.P fn kE cs R)) (bodyPostS C.P fn kE cs R)) [1] (a.put o1.dst v) AB w:=by
  intro AB hcs
  subst hcs
  have w2:Region.wanted o2 (yielded #[o1,o2] (a.put o1.dst v).tmps)=true:=by simp [Region.wanted,g2]
  have ev:(a.put o1.dst v).eval (.tmp t)=v:=by
   rw [d1]
   have:t<a.tmps.size:=by rw [hz];exact ht
   simp [Act.eval,Act.put,Array.getD_eq_getD_getElem?,this]
  simp only [wpOpsSIn]
  rw [show (#[o1,o2]:Array Oper)[1]?=some o2 from rfl]
  dsimp only
  refine ⟨fun _ _=>trivial,?_⟩
  rw [if_pos w2]
  have hx:(execOp (a.put o1.dst v).eval o2).run C.P w=.ok (.value v) w:=by simp [execOp,h2,ev]
  rw [hx]
  show Code.wpSIn _ _ _ _ _ _ _ _
  refine wpSIn_of_wpIn rfl ?_
  have Rk:Sat ((u,v)::(t,v)::hK 0 args) ((a.put o1.dst v).put o2.dst v).tmps:=by
   rw [d1,d2]
   refine Sat.put (Sat.put hs (by rw [hz];exact ht) v) ?_ v
   simp [Act.put,hz,hu]
  have:=h.out ((a.put o1.dst v).put o2.dst v) Rk (by rw [d1,d2];simp [Act.put,hz]) (by rw [d1,d2];exact hd)
  rw [hr] at this
  refine wpIn_mono this fun e a' w' ⟨q1,au,q2,q3,q4⟩=>?_
  cases e with
  | normal =>
   obtain ⟨q,hq,hk⟩:=zb (C:=C) hT q2 q4
   exact ⟨q3,m',rfl,q,hq,hk⟩
  | ret=>exact q4.elim
  | panic ch=>exact q4.elim
  | exit id=>exact q4.elim
  | goto l=>exact q4.elim
  | outgrown=>exact q4.elim
 rw [wpOpsSIn,show (#[o1,o2]:Array Oper)[0]?=some o1 from rfl]
 dsimp only
 refine ⟨fun _ _=>trivial,?_⟩
 rw [if_pos w1,h1]
 dsimp only
 rcases hm kE cs H5 with h3|⟨h3,h4,h5⟩
 ·rw [h3]
  exact key _ rfl
 ·rw [h3]
  dsimp only
  rw [←h4]
  refine key _ ?_
  rw [h5,←H5]
section
variable {V0 w0 V W w:World}
abbrev X3:List Value:=[iv 0,iv 0,.slice none 0 0,.slice none 0 0,.slice none 0 0]
theorem NL {b2 b3 b4:Nat} {c2:List Value} {c3:Value} {c4:Bool} (h2:c2.length=5) (H:Rel w0 V0 [.al b4 [.bool c4] 4,.al b3 [c3] 195,.al b2 c2 27] V w) :
  CallsDIn (Fr none) 0 Tryz.prog 243 [.pointer (some ⟨b2,0,none⟩),.pointer (some ⟨b3,0,none⟩),.pointer (some ⟨b4,0,none⟩)].toArray (.panicking [sU]) w fun e u' w'=>(∃v,e=.returned v)∧u'=.panicking [{ v:=sU.v,recovered:=true }]∧Rel w0 V0 [.al b4 [.bool false] 4,.al b3 [.slice none 0 0] 195,.al b2 X3 27] V w':=by
 obtain ⟨x0,x1,x2,x3,x4,rfl⟩:∃x0 x1 x2 x3 x4,c2=[x0,x1,x2,x3,x4]:=by
  match c2,h2 with
  | [x0,x1,x2,x3,x4],_=>exact ⟨x0,x1,x2,x3,x4,rfl⟩
 refine J8 (C:=⟨Tryz.prog,nh,8,[0,1,2,3,6],none⟩) (t:=4) (u:=3) (v:=sU.v) (m':=.panicking [{ v:=sU.v,recovered:=true }]) ad rfl Tryz.func243 rfl rfl ae (fun _ _=>rfl) rfl rfl rfl rfl rfl ag ag (fun kE cs h=>.inl (by simp [recoverD,h])) ?_
 refine aB.cc ad ?_
 refine wk ?_
 refine aB.go ad ?_
 refine H.wg ?_;clear H;intro _ _ w H
 exact ⟨⟨_,rfl⟩,rfl,H⟩
theorem NM {b2 b3 b4:Nat} {own:List ak} (H:Rel w0 V0 own V w) :
  CallsDIn (Fr none) 0 Tryz.prog 243 [.pointer (some ⟨b2,0,none⟩),.pointer (some ⟨b3,0,none⟩),.pointer (some ⟨b4,0,none⟩)].toArray .returning w fun e u' w'=>(∃v,e=.returned v)∧u'=.returning∧Rel w0 V0 own V w':=by
 refine J8 (C:=⟨Tryz.prog,nh,8,[0,1,2,3,6],none⟩) (t:=4) (u:=3) (v:=.nilIface) (m':=.returning) ad rfl Tryz.func243 rfl rfl ae (fun _ _=>rfl) rfl rfl rfl rfl rfl ag ag (fun kE cs h=>.inr ⟨by simp [recoverD,h],rfl,rfl⟩) ?_
 refine aB.cc ad ?_
 refine wk ?_
 refine aB.go ad ?_
 refine wk ?_
 exact ⟨⟨_,rfl⟩,rfl,H⟩
end
section
variable {V W w:World}
theorem UM (hE:jP V) (hV:Sub V W) {sl:Sl} {l:List UInt8} (hs:ao V sl l) (hl:l.length≤1000):aj Tryz.prog 160 [sl.v].toArray W fun q w'=>∃(V':World) (h:VH) (r:Sl) (hs:List gY),Sub V V'∧Rel W V [] V' w'∧(match nj l with
  | none=>q=.tuple #[fG h,r.v,.bool false]
  | some (v,o)=>q=.tuple #[fG h,r.v,.bool true]∧bc V' h v∧aw jh V' r hs∧Pw jK V' hs o):=by
 have H:=Rel.start hV
 refine Nr (g:=243) ad Tryz.func160 rfl ab 25 rfl ae [0,2,3,4,5] (ph Tryz.func243 ab ab) ?_
 refine aB.cc ad ?_
 refine wk ?_
 refine H.nA ?_;clear H;intro w b2 H
 refine wk ?_
 refine H.nA ?_;clear H;intro w b3 H
 refine wk ?_
 refine H.nA ?_;clear H;intro w b4 H
 refine wk ?_
 refine aB.seq ?_
 refine UQ (g:=243) (d:=6) ad rfl rfl rfl rfl rfl rfl rfl ag ?_ rfl
 conv=>whnf
 have H1:=H
 clear H
 have H:=Rel.start H1.data
 refine aB.cc ad ?_
 refine wk ?_
 refine H.nA ?_;clear H;intro w b5 H
 refine wk ?_
 replace H:=(H.bw 206 2).swap
 have hlen:=hs.len
 refine aB.seq (UR ad [(2,.pointer (some ⟨b2,0,none⟩)),(3,.pointer (some ⟨b3,0,none⟩)),(4,.pointer (some ⟨b4,0,none⟩))] rfl sB ?_)
 refine wk ?_
 refine aX.mono (LI (l.length+1) _ _ _ _ [] b5 1000 sl ⟨none,0,0⟩ [] ⟨l,0,[],[]⟩ hE H ⟨hs,Pw.nil,by show 0+l.length≤1000;omega,Nat.le_refl _⟩ aa (Nat.lt_succ_self _)) ?_ ?_
 rotate_left
 ·intro ch w' nR
  refine ⟨[.pointer (some ⟨b2,0,none⟩),.pointer (some ⟨b3,0,none⟩),.pointer (some ⟨b4,0,none⟩)],rfl,?_⟩
  have hno:nj l=none:=by unfold nj;rw [nR.why]
  refine ⟨sU.v,nR.ch,(NL rfl (H1.ext nR.ext)).mono ?_⟩
  rintro e u' nq ⟨h1,h2,H2⟩
  refine ⟨h1,h2,?_⟩
  clear H
  have H:=H2
  rw [hno]
  refine wk ?_
  exact ⟨V,cw,⟨none,0,0⟩,[],Sub.refl _,H.sx,rfl⟩
 rintro v w ⟨v1,s',h1,aL,rfl,V1,r1,o1,hs1,hV1,dF,jy,H⟩
 replace H:=H1.call H
 simp only [cd,List.cons_append,List.nil_append] at H
 refine H.wg ?_;clear H;intro w H
 refine aB.cc ad ?_
 refine wk ?_
 refine (KB H dF aa true).use ?_
 clear H
 rintro v w ⟨rfl,V2,r2,o2,bM,hV2,cz,_,H⟩
 rw [if_pos rfl] at cz H
 simp only [cd,List.cons_append,List.nil_append] at H
 have gx:=cz.ol
 have hoth:=cz.dt
 have hr2:=cz.rest.len
 have e:nj l=if (nc [10] s').rest=[] then some (v1,(nc [10] s').dt) else none:=by unfold nj;rw [aL]
 obtain ⟨V3,ar,H,hb5⟩:=H.bJ
 obtain ⟨V4,av,H,Q3⟩:=H.aJ (fun _=>rfl) ag
 have c0:V4.cell? ⟨b5,0,none⟩=some r2.v:=av.cell (hb5.bt rfl)
 have c3:V4.cell? ⟨b5,3,none⟩=some o2.v:=av.cell (hb5.bt rfl)
 refine wk ?_
 refine aB.cc ad ?_
 (first|refine fo (id:=5) ad mixed (Kv V4) Kv.trans [11,12] [4,8] [0,1,2,3,4,5,6,7,8,9,10,11,12,13] [(11,[]),(12,[11]),(13,[11,12])] ab ?_);intro w aG;replace H:=Rel.ext H aG.ext
 repeat' ((first|(refine H.sT ?_;clear H;intros;rename_i w H;constructor)|refine wk ?_);(first|refine Kv.go H ?_|refine Kv.go2 H (by assumption) ?_|(refine And.intro (fun w1 hkp=>?_) ?_;focus ((first|have H:=Kv.in H hkp|have H:=Kv.j9 H (by assumption) hkp);((repeat ((conv=>whnf);first|refine an ?_|refine H.ce ?_|refine H.db ?_|refine ea ?_|refine ol ?_|fail|refine cT ?_|refine cF ?_|refine cN ?_|refine cM ?_|refine H.lw ?_|refine H.ll ?_));(conv=>whnf));all_goals (first|exact ⟨rfl,rfl⟩|exact rfl)))|refine And.intro ?_ ?_|(refine H.nA ?_;clear H;intro w _ H)))
 refine H.wh ?_;clear H;intro w H
 refine aB.go ad ?_
 conv=>whnf
 refine ⟨[.pointer (some ⟨b2,0,none⟩),.pointer (some ⟨b3,0,none⟩),.pointer (some ⟨b4,0,none⟩)],rfl,(NM H).mono ?_⟩
 rintro q u' nq ⟨q1,q2,H2⟩
 refine ⟨q1,q2,?_⟩
 clear H
 have H:=H2
 refine wk ?_
 refine ⟨V4,h1,o2,bM,hV1.trans (hV2.trans (ar.trans av)),H.sx,?_⟩
 rw [e]
 by_cases h0:(nc [10] s').rest=[]
 ·rw [if_pos h0]
  have:r2.len=0:=by rw [hr2,h0];rfl
  rw [this]
  exact ⟨rfl,jy.up (hV2.trans (ar.trans av)),Q3,hoth.up jK.up (ar.trans av)⟩
 ·rw [if_neg h0]
  have:r2.len≠0:=fun e=>h0 (List.eq_nil_of_length_eq_zero (hr2.symm.trans e))
  rw [decide_eq_false aa]
end
abbrev mc:=fU×Sl
abbrev qV (p:mc):List Value:=[iv ((p.1.1:Nat):Int),p.2.v]
theorem Nb {V:World} {s:Sl} {hs:List gY} {o:List fU} (h:aw jh V s hs) (hp:Pw jK V hs o):∃ps:List mc,aw qV V s ps∧ps.map Prod.fst=o∧∀p∈ps,ao V p.2 p.1.2:=by
 have hl:=hp.len
 refine ⟨o.zip (hs.map Prod.snd),?_,?_,?_⟩
 ·have e:(o.zip (hs.map Prod.snd)).flatMap qV=hs.flatMap jh:=by
   clear h
   induction hs generalizing o with
   | nil =>
    cases o with
    | nil=>rfl
    | cons y o=>simp at hl
   | cons x hs ih =>
    cases o with
    | nil=>simp at hl
    | cons y o =>
     have h0:=(hp.all 0 x y rfl rfl).1
     have ht:Pw jK V hs o:=⟨by simpa using hl,fun k a b h1 h2=>hp.all (k+1) a b h1 h2⟩
     rw [List.map_cons,List.zip_cons_cons,List.flatMap_cons,List.flatMap_cons,ih ht (by simpa using hl)]
     simp only [qV,jh,h0]
  exact ⟨by rw [h.len];simp [hl],h.cap,by rw [e];exact h.cells⟩
 ·rw [List.map_fst_zip]
  simp [hl]
 ·intro p B9
  obtain ⟨i,hi⟩:=List.mem_iff_getElem?.1 B9
  rw [List.getElem?_zip_eq_some] at hi
  obtain ⟨h1,h2⟩:=hi
  rw [List.getElem?_map] at h2
  obtain ⟨x,hx,h3⟩:=Option.map_eq_some_iff.1 h2
  rw [←h3]
  exact (hp.all i x p.1 hx h1).2
section
variable {V W:World}
theorem Pm {p:mc} (hV:Sub V W) (hb:ao V p.2 p.1.2) (h1:p.1.1≤100000) (h2:p.1.2.length≤100000):aj Tryz.prog 247 [.agg (qV p).toArray].toArray W fun v w'=>∃r:Sl,v=r.v∧Rel W V [.row r 5 1 ((dM p.1).flatMap ay)] V w':=by
 have H:=Rel.start hV
 have a1:=cD (n:=((p.1.1:Nat):Int)) aa aa
 have a2:=qj (b:=p.1.2) aa
 refine eV Tryz.func247 10 [0,1,2] ?_
 refine wk ?_
 refine H.nA ?_;clear H;intro w b1 H
 obtain ⟨V1,hV1,H,gN⟩:=H.bJ
 have c0:V1.cell? ⟨b1,0,none⟩=some (iv ((p.1.1:Nat):Int)):=gN.bt rfl
 have c1:V1.cell? ⟨b1,1,none⟩=some p.2.v:=gN.bt rfl
 refine wk ?_
 refine dV 1 [2] [0,1,3,4,2,5,6,7] H ?_;clear H;intro w H
 refine wk ?_
 refine (eQ H.data (by constructor<;>omega)).use ?_
 rintro v w ⟨r1,rfl,K⟩
 (replace H:=Rel.call H K)
 simp only [List.cons_append,List.nil_append] at H
 refine wk ?_
 refine (q5 H.data (hb.up hV1) aa).use ?_
 rintro v w ⟨r2,rfl,K⟩
 (replace H:=Rel.call H K)
 simp only [List.cons_append,List.nil_append] at H
 refine wk ?_
 refine Rel.cQ H (i:=0) rfl aa ?_
 clear H
 intro r3 w H
 refine wk ?_
 exact ⟨r3,rfl,H.sx.back⟩
theorem VT {V W:World} (hV:Sub V W) {s:Sl} {l:List mc} (hs:aw qV V s l) {g:FuncId} {cap:List Value} {enc:mc→List UInt8} (hone:∀x∈l,nu V g cap ((fun p=>.agg (qV p).toArray) x) (enc x)) (hll:l.length≤1099511627776) (hb:(bj enc l).length≤1099511627776) :
  aj Tryz.prog 246 [s.v,.func (.func g) #[] cap.toArray].toArray W fun v w'=>∃r:Sl,v=r.v∧Rel W V [.row r 5 1 ((bj enc l).flatMap ay)] V w':=by
 have H:=Rel.start hV
 have hlen:=hs.len
 rw [bj,List.length_append] at hb
 refine eV Tryz.func246 24 [0,1,4,5,7,11,12,13,14] ?_
 refine wk ?_
 rw [hlen]
 refine (eQ (n:=l.length) H.data (by constructor<;>omega)).use ?_
 rintro v w ⟨r0,rfl,K⟩
 replace H:=H.call K
 refine wk ?_
 refine aK (S:=Nat×Sl) ad [0,1,4,11,12] (fun k=>[(5,k.2.v),(13,iv k.1)]) (fun k w'=>k.1≤l.length∧∃V1,Sub V V1∧Rel W V [.row k.2 5 1 ((ax l.length++(l.take k.1).flatMap enc).flatMap ay)] V1 w') (fun k _=>l.length - k.1) (0,r0) ?_
 conv=>whnf
 refine ⟨sB,⟨aa,V,Sub.refl _,by simpa using H⟩,?_⟩
 clear H
 rintro ⟨k,r⟩ w ⟨hk,V1,hV1,H⟩
 dsimp only at hk H
 by_cases hlt:k<l.length
 rotate_left
 ·refine wk ?_
  rw [List.take_of_length_le aa] at H
  exact ⟨r,rfl,H.back⟩
 have hbl:=xf (enc:=enc) hlt
 obtain ⟨hp,lI,iI⟩:=(hs.up hV1).dW (g:=fun r:mc=>iv ((r.1.1:Nat):Int)) (g':=fun r:mc=>r.2.v) (fun _=>rfl) hlt
 refine H.wg ?_;clear H;intro _ _ w H
 refine (hone l[k] (List.getElem_mem hlt) V1 w hV1 H.data).use ?_
 rintro v w ⟨V2,x,hV2,rfl,hx,K⟩
 replace H:=H.call K
 simp only [List.nil_append] at H
 refine wk ?_
 refine Rel.gn H (i:=1) rfl hx (by simp only [List.length_append];omega) ?_
 clear H
 intro rn w H
 rw [xe hlt] at H
 refine wk ?_
 exact ⟨sB,(k+1,rn),sB,⟨aa,V2,hV1.trans hV2,H.sx⟩,aa⟩
theorem Pp (hV:Sub V W) {s:Sl} {hs:List gY} {o:List fU} (h:aw jh V s hs) (hp:Pw jK V hs o) (hl:o.length≤1000) (hb:∀x∈o,x.1≤2000∧x.2.length≤1000):aj Tryz.prog 161 [s.v].toArray W fun v w'=>∃(V':World) (r:Sl),Sub V V'∧v=r.v∧ao V' r (l7 o)∧Rel W V [] V' w':=by
 have H:=Rel.start hV
 obtain ⟨ps,h1,h2,h3⟩:=Nb h hp
 have j8:=h1.len
 have hpl:ps.length=o.length:=by rw [←h2];simp
 have mL:bj (fun p:mc=>dM p.1) ps=bj dM o:=by
  rw [←h2]
  simp only [bj,List.length_map,List.flatMap_map]
 have Y9:(bj dM o).length≤70000000:=by
  have:=ov (f:=dM) (m:=2000) (l:=o) aa fun x hx=>by
   obtain ⟨a,b⟩:=hb x hx
   have h1:=cD (n:=(x.1:Int)) aa aa
   have h2:=qj (b:=x.2) aa
   simp only [dM,List.length_append]
   omega
  have h3:=Nat.mul_le_mul_right 2000 hl
  omega
 have hmem:∀p∈ps,p.1∈o:=fun p hp=>by rw [←h2];exact List.mem_map.2 ⟨p,hp,rfl⟩
 refine eV Tryz.func161 8 [0,2,5] ?_
 by_cases h0:o=[]
 ·have:s.len=0:=by rw [j8,hpl,h0];rfl
  refine wk ?_
  refine ⟨V,⟨none,0,0⟩,Sub.refl _,rfl,?_,H.sx⟩
  rw [l7,if_pos h0]
  exact aw.nil _ _
 ·have:s.len≠0:=by rw [j8,hpl];exact fun h=>h0 (List.eq_nil_of_length_eq_zero h)
  refine wk ?_
  refine (VT H.data h1 (enc:=fun p:mc=>dM p.1) (g:=247) (cap:=[]) (fun p hp=>yB fun V1 W1 q1 q2=>Pm q1 ((h3 p hp).up q2) (by have:=hb _ (hmem p hp);omega) (by have:=hb _ (hmem p hp);omega)) aa (by rw [mL];omega)).use ?_
  rintro v w ⟨r,rfl,K⟩
  (replace H:=Rel.call H K)
  simp only [List.cons_append,List.nil_append] at H
  refine wk ?_
  obtain ⟨V2,hV2,H,hr⟩:=H.aJ (fun _=>rfl) ag
  rw [mL] at hr
  exact ⟨V2,r,hV2,rfl,by rw [l7,if_neg h0];exact hr,H.sx⟩
end
theorem A4 {V W:World} (hV:Sub V W) (c i:Int):aj Tryz.prog 159 [iv c,iv i].toArray W fun v w'=>v=gq c i∧Rel W V [] V w':=by
 have H:=Rel.start hV
 refine eV Tryz.func159 8 [0,1,4] ?_
 refine H.wg ?_;clear H;intro _ _ w H
 exact H.sx
section
variable {V W:World}
theorem WW (hV:Sub V W) (hE:jP V) {s:Sl} {l:List UInt8} (hs:ao V s l) (hl:l.length≤1099511627776):aj Tryz.prog 67 [s.v].toArray W (gZ W V (aU (fi l) l.length)):=by
 have H:=Rel.start hV
 have hlen:=hs.len
 refine eV Tryz.func67 33 [0,2,3,4,5,6,7,10,26] ?_
 refine wk ?_
 refine H.nA ?_;clear H;intro w b2 H
 refine wk ?_
 refine H.nA ?_;clear H;intro w b4 H
 by_cases bR:1000<l.length
 ·have e:aU (fi l) l.length=⟨zeroV,[],3, -1⟩:=by unfold aU;rw [if_pos bR]
  rw [e]
  refine wk ?_
  refine (A4 H.data 3 (-1)).use ?_
  rintro v w ⟨rfl,K⟩
  (replace H:=Rel.call H K)
  simp only [List.nil_append] at H
  refine H.wg ?_;clear H;intro _ w H
  exact ⟨V,cw,⟨none,0,0⟩,Sub.refl _,H.sx,rfl,gG _,aw.nil _ _⟩
 refine wk ?_
 refine (UM hE H.data hs aa).use ?_
 rintro v w ⟨V2,h,r,hh,hV2,K,hres⟩
 (replace H:=Rel.call H K)
 simp only [List.nil_append] at H
 cases hf:nj l with
 | none =>
  rw [hf] at hres
  obtain rfl:=hres
  have e:aU (fi l) l.length=⟨zeroV,[],21, -1⟩:=by unfold aU;rw [if_neg bR,fi,hf]
  rw [e]
  refine wk ?_
  refine H.nA ?_;clear H;intro w b5 H
  refine H.wg ?_;clear H;intro w H
  refine (A4 H.data 21 (-1)).use ?_
  rintro v w ⟨rfl,K⟩
  (replace H:=Rel.call H K)
  simp only [List.nil_append] at H
  refine H.wg ?_;clear H;intro _ w H
  exact ⟨V2,cw,⟨none,0,0⟩,hV2,H.sx,rfl,gG _,aw.nil _ _⟩
 | some y =>
  obtain ⟨vv,o⟩:=y
  rw [hf] at hres
  obtain ⟨rfl,hv,hr,hp⟩:=hres
  obtain ⟨L,lb,F,rfl⟩:=Lb hf
  obtain ⟨q1,q2,q3,q4⟩:=F.bounds aa
  have Bv:=F.vb aa
  have hto:fi l=if (bC vv).1=0 then some (vv,l7 (kg L lb)) else none:=by unfold fi;rw [hf]
  refine wk ?_
  refine H.nA ?_;clear H;intro w b5 H
  refine H.wg ?_;clear H;intro w H
  refine (sP H.data hv Bv).use ?_
  rintro q w ⟨rfl,K⟩
  (replace H:=Rel.call H K)
  simp only [List.nil_append] at H
  by_cases cK:(bC vv).1=0
  rotate_left
  ·have e:aU (fi l) l.length=⟨zeroV,[],21, -1⟩:=by unfold aU;rw [if_neg bR,hto,if_neg cK]
   rw [e]
   refine wk ?_
   refine (A4 H.data 21 (-1)).use ?_
   rintro v w ⟨rfl,K⟩
   (replace H:=Rel.call H K)
   simp only [List.nil_append] at H
   refine H.wg ?_;clear H;intro _ w H
   exact ⟨V2,cw,⟨none,0,0⟩,hV2,H.sx,rfl,gG _,aw.nil _ _⟩
  have e:aU (fi l) l.length=⟨vv,l7 (kg L lb),0,0⟩:=by unfold aU;rw [if_neg bR,hto,if_pos cK]
  rw [e,sR cK]
  refine wk ?_
  refine dV 6 [2] [0,1,3,2,4,5,6] H ?_;clear H;intro w H
  refine wk ?_
  refine (Pp H.data hr hp q1 (fun x hx=>by have:=q3 x hx;exact this.1)).use ?_
  rintro v w ⟨V4,r2,av,rfl,hr2,K⟩
  (replace H:=Rel.call H K)
  simp only [List.nil_append] at H
  refine H.wg ?_;clear H;intro _ w H
  exact ⟨V4,_,r2,hV2.trans av,H.sx,rfl,hv.up av,hr2⟩
end
end Go.Proofs.YtmoiobegbpkkbaaGreatDoor
