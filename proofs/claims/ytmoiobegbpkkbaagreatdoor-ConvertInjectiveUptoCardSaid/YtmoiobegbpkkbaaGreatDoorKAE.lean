import Derived.Test.YtmoiobegbpkkbaaGreatDoorKAD
import Derived.Laws.Cover4
namespace Go.Proofs.YtmoiobegbpkkbaaGreatDoor
open Go Go.RowKit
set_option maxRecDepth 100000
set_option maxHeartbeats 8000000
section
variable {w0 V0 V w:World} {own:List ak}
theorem Rel.back (H:Rel w0 V0 own V w):Rel w0 V0 own V0 w :=
 ⟨H.base,Sub.refl _,fun _ _ h=>h,H.laid,H.new,fun r hr b hb c t f hc=>H.hid r hr b hb c t f (H.sub.bt b c t f hc),H.apart,H.sub.trans H.data⟩
theorem Rel.vw (H:Rel w0 V0 own V w) {i:Nat} {r:ak} {b:Nat} (hi:own[i]?=some r) (hr:r.at_=some b) {w1:World} (hs:dD [b] w w1):∃E,Rel E E (own.eraseIdx i) V w1:=by
 have hlt:=(List.getElem?_eq_some_iff.1 hi).1
 have uy:=(List.getElem?_eq_some_iff.1 hi).2
 have hmem:r∈own:=List.mem_of_getElem? hi
 have dJ:(own.eraseIdx i).Sublist own:=List.eraseIdx_sublist ..
 have Hs:=H.sl dJ
 have hoth:∀x∈own.eraseIdx i,x.at_≠some b:=by
  intro x hx It
  obtain ⟨j,hj⟩:=List.mem_iff_getElem?.1 hx
  rw [List.getElem?_eraseIdx] at hj
  have hp:=List.pairwise_iff_getElem.1 H.apart
  split at hj
  ·rename_i hji
   obtain ⟨pP,rK⟩:=List.getElem?_eq_some_iff.1 hj
   exact hp j i pP hlt hji b (by rw [rK];exact It) (by rw [uy];exact hr)
  ·rename_i hji
   obtain ⟨pP,rK⟩:=List.getElem?_eq_some_iff.1 hj
   exact hp i (j+1) hlt pP aa b (by rw [uy];exact hr) (by rw [rK];exact It)
 refine ⟨{ w1 with heap:=#[] },⟨rfl,rfl,rfl,ae,fun k hk=>by simp at hk⟩,⟨fun c a t f hc=>by simp at hc⟩,fun c hc=>by simp at hc,fun x hx=>?_,fun x hx c hc=>by simp,Hs.hid,Hs.apart,⟨fun c a t f hc=>?_⟩⟩
 ·have hl:=Hs.laid x hx
  refine ak.fw hl fun c hc=>hs.block c (ak.lt hl hc) ?_
  intro gw
  rw [List.mem_singleton.1 gw] at hc
  exact hoth x hx hc
 ·have h1:=H.data.bt c a t f hc
  rw [hs.block c (Array.getElem?_eq_some_iff.1 h1).1]
  ·exact h1
  ·intro gw
   rw [List.mem_singleton.1 gw] at hc
   exact H.hid r hmem b hr a t f hc
theorem Rel.vD (H:Rel w0 V0 own V w) {i b o:Nat} {c l:List Value} {t:TypeId} (hi:own[i]?=some (.al b c t)) {k:World→Prop} (hk:cW c o l fun c'=>∀w',Rel w0 V0 (own.set i (.al b c' t)) V w'→k w') :
  ∃c t',jd w b c t'∧cW c o l fun c'=>∀w',hC w b c' t' w'→dD [b] w w'∧k w':=by
 refine ⟨c,t,(H.lz hi).f,?_⟩
 have mono:∀(c:List Value) (o:Nat) (l:List Value) (k k':List Value→Prop),(∀x,k x→k' x)→cW c o l k→cW c o l k':=by
  intro c
  induction c with
  | nil=>intro o l k k' h hr;cases o<;>cases l<;>first|exact h _ hr|exact hr.elim
  | cons u c ih =>
   intro o l k k' h hr
   cases o with
   | zero =>
    cases l with
    | nil=>exact h _ hr
    | cons v l=>exact ih 0 l _ _ (fun x hx=>h _ hx) hr
   | succ o=>cases l<;>exact ih o _ _ _ (fun x hx=>h _ hx) hr
 exact mono c o l _ _ (fun c' hc' w' hu=>⟨dD.vP (hu.vP (H.lz hi)) ae,hc' w' (H.Er hi (hu.vP (H.lz hi)))⟩) hk
end
abbrev ay (b:UInt8):List Value:=[bv b]
abbrev ao:=aw ay
theorem fm (l:List UInt8):l.flatMap ay=l.map bv:=by induction l<;>simp_all
theorem By.KD {V:World} {s:Sl} {l:List UInt8} (h:By V s l):ao V s l:=⟨h.len,h.cap,by rw [fm];exact h.cells⟩
theorem Rel.cj {w0 V0 V w:World} {own:List ak} {b:Nat} {c c':List Value} {t:TypeId} (H:Rel w0 V0 (.al b c t::own) V w) (h:c=c'):Rel w0 V0 (.al b c' t::own) V w:=h ▸ H
theorem E5 {n:Nat} (h:n<256) {x:Int} (hx:x=n):[Value.int .u8 x]=ay (UInt8.ofNat n):=by
 subst hx
 simp only [ay,bv,bW h]
theorem A9 {l:List UInt8}:∀u∈l.flatMap ay,u.oneCell'=true:=by
 intro u hu
 obtain ⟨x,_,hx⟩:=List.mem_flatMap.1 hu
 rw [List.mem_singleton.1 hx];rfl
section
variable {w0 V0 V w:World} {own:List ak}
theorem Rel.gn {i:Nat} {s x:Sl} {xs ys:List UInt8} (H:Rel w0 V0 own V w) (hi:own[i]?=some (.row s 5 1 (xs.flatMap ay))) (hx:ao V x ys) (hb:xs.length+ys.length≤1099511627776) {ty:TypeId} {k:Value→World→Prop}
  (hk:∀s' w',Rel w0 V0 (own.set i (.row s' 5 1 ((xs++ys).flatMap ay))) V w'→k s'.v w'):aH Tryz.prog (Builtin.append_ #[22,22] ty #[s.v,x.v]) w k:=by
 have hl:=H.dz hi (fun _=>rfl) ag
 have hxl:=hx.len
 refine Rel.tg ad rfl rfl rfl rfl rfl ag H hi (hx.up H.data).cells (by rw [jZ (n:=1) (fun _=>rfl),hxl]) A9 (by rw [hl,hxl];simp;omega) (by rw [hl,hxl];omega) ?_
 intro s' w' H' _
 refine hk s' w' ?_
 rw [List.flatMap_append]
 exact H'
theorem Rel.cQ {i:Nat} {s x:Sl} {xs ys:List UInt8} (H:Rel w0 V0 (.row x 5 1 (ys.flatMap ay)::own) V w) (hi:own[i]?=some (.row s 5 1 (xs.flatMap ay))) (hb:xs.length+ys.length≤1099511627776) {ty:TypeId} {k:Value→World→Prop}
  (hk:∀s' w',Rel w0 V0 (own.set i (.row s' 5 1 ((xs++ys).flatMap ay))) V w'→k s'.v w'):aH Tryz.prog (Builtin.append_ #[22,22] ty #[s.v,x.v]) w k:=by
 have hl:=H.pd.dz hi (fun _=>rfl) ag
 have hxl:=H.dz (i:=0) rfl (fun _=>rfl) ag
 have hc:=(H.rowAt (i:=0) rfl).cells
 refine Rel.tg ad rfl rfl rfl rfl rfl ag H (i:=i+1) (by simpa using hi) hc (by rw [jZ (n:=1) (fun _=>rfl),hxl]) A9 (by rw [hl,hxl];simp;omega) (by rw [hl,hxl];omega) ?_
 intro s' w' H' _
 refine hk s' w' ?_
 rw [List.flatMap_append]
 exact Rel.pd (by simpa using H')
end
section
variable {V W:World}
theorem eQ (hV:Sub V W) {n:Int} (hn:bI n):aj Tryz.prog 196 [iv n].toArray W fun v w'=>∃r:Sl,v=r.v∧Rel W V [.row r 5 1 ((ax n).flatMap ay)] V w':=by
 have H:=Rel.start hV
 have hlen:=cD hn.1 hn.2
 have hz:=X5 hn
 have p7:=zL hn.1 hn.2
 refine eV Tryz.func196 27 [0,2,3,4,13] ?_
 refine wk ?_
 replace H:=H.bw 5 1
 refine aK (S:=Nat×Sl×List UInt8) ad [0,2] (fun k=>[(3,.int .u64 k.1),(4,k.2.1.v)]) (fun k w'=>k.1<18446744073709551616∧k.2.2++iV k.1=ax n∧Rel W V [.row k.2.1 5 1 (k.2.2.flatMap ay)] V w') (fun k _=>k.1) (zz n,⟨none,0,0⟩,[]) ?_
 conv=>whnf
 refine ⟨⟨congrArg (fun z=>some (Value.int .u64 z)) hz,rfl,trivial⟩,⟨p7,rfl,H.sx⟩,?_⟩
 clear H
 rintro ⟨u,r,o⟩ w ⟨hu,ho,H⟩
 dsimp only at hu ho H
 have gx:=congrArg List.length ho
 have hpl:=kh u
 simp only [List.length_append] at gx
 by_cases h128:u<128
 ·rw [sv h128] at ho
  have hb:(u:Int)%256=(u:Nat):=aa
  refine H.wg ?_;clear H;intro _ w H
  refine Rel.dj (f:=ay) (x:=UInt8.ofNat u) ad rfl rfl rfl rfl rfl ag (fun _=>rfl) (by simp [Value.oneCell']) (H.cj (E5 (n:=u) aa hb)) (by simp;omega) aa ?_
  clear H
  intro rn w H
  refine wk ?_
  exact ⟨rn,rfl,by rw [←ho];exact H⟩
 ·rw [yR h128] at ho
  have hb:aV .or .u8 ((u:Int)%256) 128=((u%128+128:Nat):Int):=by
   have:=TA (x:=u%256) aa
   rw [show ((u%256:Nat):Int)=(u:Int)%256 by omega] at this
   rw [this]
   omega
  refine H.wg ?_;clear H;intro _ w H
  refine Rel.dj (f:=ay) (x:=UInt8.ofNat (u%128+128)) ad rfl rfl rfl rfl rfl ag (fun _=>rfl) (by simp [Value.oneCell']) (H.cj (E5 (n:=u%128+128) aa hb)) (by simp;omega) aa ?_
  clear H
  intro rn w H
  refine wk ?_
  refine ⟨sB,(u / 128,rn,o++[UInt8.ofNat (u%128+128)]),⟨rfl,rfl,trivial⟩,⟨by dsimp only;omega,by simpa using ho,H.sx⟩,by dsimp only;omega⟩
theorem q5 (hV:Sub V W) {x:Sl} {b:List UInt8} (hx:ao V x b) (hl:b.length≤1099511627000):aj Tryz.prog 227 [x.v].toArray W fun v w'=>∃r:Sl,v=r.v∧Rel W V [.row r 5 1 ((cx b).flatMap ay)] V w':=by
 have H:=Rel.start hV
 have hxl:=hx.len
 have hp:=cD (n:=b.length) aa aa
 refine eV Tryz.func227 8 [0,2] ?_
 refine wk ?_
 rw [hxl]
 refine (eQ (n:=b.length) H.data (by constructor<;>omega)).use ?_
 rintro v w ⟨r,rfl,K⟩
 replace H:=H.call K
 refine wk ?_
 refine Rel.gn H (i:=0) rfl hx aa ?_
 clear H
 intro rn w H
 refine wk ?_
 exact ⟨rn,rfl,H⟩
theorem wC (hV:Sub V W) {x y:Sl} {a b:List UInt8} (hx:ao V x a) (hy:ao V y b):aj Tryz.prog 15 [x.v,y.v].toArray W fun v w'=>v=.bool (decide (a=b))∧Rel W V [] V w':=by
 have H:=Rel.start hV
 have h1:=hx.len
 have h2:=hy.len
 have mD:Cells W x.a (a.map bv):=fm a ▸ (hx.up hV).cells
 have Qo:Cells W y.a (b.map bv):=fm b ▸ (hy.up hV).cells
 refine eV Tryz.func15 10 [0,1,4] ?_
 refine wk ?_
 exact H
abbrev ct (z:Int):List Value:=[iv z]
theorem aw.aP {α:Type} {f:α→List Value} {s:Sl} {l:List α} (h:aw f V s l) {g:α→Value} (hf:∀x,f x=[g x]) {i:Nat} (hi:i<l.length):Plain s.a∧V.cell? ⟨aN s.a,aI s.a+i,none⟩=some (g l[i]):=by
 obtain ⟨h1,h2⟩:=h.get (n:=1) (fun x=>by rw [hf];rfl) aa hi
 refine ⟨h1,?_⟩
 have:=h2 0 (g l[i]) (by rw [hf];rfl)
 simpa using this
end
abbrev gq (c i:Int):Value:=.agg #[iv c,iv i]
def xk {α:Type} (A:α→Value) (z:α):fV α→Value
 | .ok x q=>.tuple #[A x,iv q,.agg #[iv 0,iv 0]]
 | .bad c i=>.tuple #[A z,iv 0,.agg #[iv c,iv i]]
theorem Py {l:List UInt8} {i u:Nat} {c:UInt8} {r:List UInt8} (hl:l=c::r) (hs:¬((i=9∧1<c.toNat)∨(0<i∧c.toNat=0))) (hc:¬c.toNat<128) {X:EE}
  (h:X=match eL i l with|.ok u' k=>.ok (u+2 ^ (7*i)*u') (i+k)|e=>e):X=match eL (i+1) r with|.ok u' k=>.ok (u+c.toNat%128*2 ^ (7*i)+2 ^ (7*(i+1))*u') (i+1+k)|e=>e:=by
 subst hl
 rw [h]
 simp only [eL,if_neg hs,if_neg hc]
 cases eL (i+1) r with
 | ok u' k =>
  simp only
  congr 1
  ·rw [show 7*(i+1)=7*i+7 by omega,Nat.pow_add,Nat.mul_add,←Nat.mul_assoc,Nat.mul_comm (c.toNat%128),show (2:Nat) ^ 7=128 from rfl]
   omega
  ·omega
 | _=>rfl
section
variable {V W:World}
theorem w9 (hV:Sub V W) (c i:Int):aj Tryz.prog 269 [iv c,iv i].toArray W fun v w'=>v=.agg #[iv c,iv i]∧Rel W V [] V w':=by
 have H:=Rel.start hV
 refine eV Tryz.func269 8 [0,1,4] ?_
 refine H.wg ?_;clear H;intro _ _ w H
 exact H.sx
theorem y5 (hV:Sub V W) {s:Sl} {l:List UInt8} (hs:ao V s l) (hl:l.length≤1099511627776) {p:Nat} (hp:p≤l.length):aj Tryz.prog 200 [s.v,iv p].toArray W fun v w'=>v=xk iv 0 (cC l p)∧Rel W V [] V w':=by
 have H:=Rel.start hV
 have hlen:=hs.len
 refine eV Tryz.func200 76 [0,1,4,5,6,7,8,9,17,19,20,27,49,59] ?_
 refine wk ?_
 refine H.nA ?_;clear H;intro w b6 H
 refine wk ?_
 refine aK (S:=Nat×Nat) ad [0,1,6,17] (fun k=>[(7,.int .u64 k.2),(19,iv k.1)]) (fun k w'=>k.1≤9∧p+k.1≤l.length∧k.2<2 ^ (7*k.1)∧(eL 0 (l.drop p)=match eL k.1 (l.drop (p+k.1)) with|.ok u' m=>.ok (k.2+2 ^ (7*k.1)*u') (k.1+m)|e=>e)∧Rel W V [.al b6 [iv 0,iv 0] 31] V w') (fun k _=>10 - k.1) (0,0) ?_
 conv=>whnf
 refine ⟨sB,⟨aa,aa,ae,by simp;cases eL 0 (l.drop p)<;>simp,H.sx⟩,?_⟩
 clear H
 rintro ⟨i,u⟩ w ⟨hi,Rc,hu,hg,H⟩
 dsimp only at hi Rc hu hg H
 by_cases HE:p+i=l.length
 ·have hb:cC l p=.bad 15 p:=by
   rw [cC,hg,List.drop_of_length_le aa]
   rfl
  rw [hb]
  refine wk ?_
  refine (w9 H.data 15 p).use ?_
  rintro v w ⟨rfl,K⟩
  replace H:=H.call K
  simp only [List.nil_append] at H
  refine H.wg ?_;clear H;intro w H
  exact H.sx
 have hlt:p+i<l.length:=aa
 obtain ⟨hpl,hq⟩:=hs.aP (g:=bv) (fun _=>rfl) hlt
 have j4:l.drop (p+i)=l[p+i]::l.drop (p+i+1):=List.drop_eq_getElem_cons hlt
 have Hv:=(l[p+i]).toNat_lt
 have Cb:V.cell? ⟨aN s.a,aI s.a+((p:Int)+(i:Int)).toNat,none⟩=some (bv l[p+i]):=by rw [show ((p:Int)+(i:Int)).toNat=p+i by omega];exact hq
 have hst:7*(i:Int)=((7*i:Nat):Int):=aa
 by_cases hsy:(i=9∧1<l[p+i].toNat)∨(0<i∧l[p+i].toNat=0)
 ·have hb:cC l p=.bad 1 p:=by
   rw [cC,hg,j4,eL,if_pos hsy]
  rw [hb]
  have key:∀ {F:Prop},F→F:=fun h=>h
  by_cases h9:i=9∧1<l[p+i].toNat
  ·obtain ⟨YG,YH⟩:=h9
   refine wk ?_
   refine (w9 H.data 1 p).use ?_
   rintro v w ⟨rfl,K⟩
   replace H:=H.call K
   simp only [List.nil_append] at H
   refine H.wg ?_;clear H;intro w H
   exact H.sx
  ·obtain ⟨Yx,Yy⟩:=hsy.resolve_left h9
   by_cases pM:i=9
   all_goals
    refine wk ?_
    refine (w9 H.data 1 p).use ?_
    rintro v w ⟨rfl,K⟩
    replace H:=H.call K
    simp only [List.nil_append] at H
    refine H.wg ?_;clear H;intro w H
    exact H.sx
 have B0:i=9→l[p+i].toNat≤1:=fun h=>by
  rcases Nat.lt_or_ge 1 l[p+i].toNat with h1|h1
  ·exact absurd (.inl ⟨h,h1⟩) hsy
  ·exact h1
 have hn0:0<i→l[p+i].toNat≠0:=fun h h1=>hsy (.inr ⟨h,h1⟩)
 have hpw:2 ^ (7*(i+1))=128*2 ^ (7*i):=by rw [show 7*(i+1)=7*i+7 by omega,Nat.pow_add,Nat.mul_comm]
 have Is:l[p+i].toNat%128*2 ^ (7*i)<18446744073709551616:=by
  by_cases h:i=9
  ·have:=B0 h
   have h2:l[p+i].toNat%128≤1:=aa
   have h3:=Nat.mul_le_mul_right (2 ^ (7*i)) h2
   have h4:2 ^ (7*i)≤2 ^ 63:=Nat.pow_le_pow_right ag aa
   simp only [Nat.reducePow] at h4
   omega
  ·have h2:l[p+i].toNat%128≤127:=aa
   have h3:=Nat.mul_le_mul_right (2 ^ (7*i)) h2
   have h4:2 ^ (7*i)≤2 ^ 56:=Nat.pow_le_pow_right ag aa
   simp only [Nat.reducePow] at h4
   omega
 have Rp:u<18446744073709551616:=by
  have h4:2 ^ (7*i)≤2 ^ 63:=Nat.pow_le_pow_right ag aa
  simp only [Nat.reducePow] at h4
  omega
 obtain ⟨U,hU⟩:∃U,U=u+l[p+i].toNat%128*2 ^ (7*i):=⟨_,rfl⟩
 have fZ:aV .or .u64 (((i,u):Nat×Nat).snd:Int) (wr .u64 (wr .u64 (aV .and .u8 (l[p+i].toNat:Int) 127)*2 ^ min (7*(((i,u):Nat×Nat).fst:Int)).toNat IntKind.u64.bits))=(U:Int):=by
  have e1:min (7*(((i,u):Nat×Nat).fst:Int)).toNat IntKind.u64.bits=7*i:=by
   show min (7*(i:Int)).toNat 64=7*i
   omega
  rw [e1,MG aa,hU,←oq hu Is Rp]
  congr 1
  have e2:wr .u64 ((l[p+i].toNat%128:Nat):Int)=((l[p+i].toNat%128:Nat):Int):=by
   simp only [wr]
   omega
  rw [e2,EB]
  have:=vW Is
  rw [←this]
  simp
 by_cases hc:l[p+i].toNat<128
 ·have dG:eL 0 (l.drop p)=.ok U (i+1):=by
   rw [hg,j4,eL,if_neg hsy,if_pos hc]
   simp only
   rw [hU,Nat.mod_eq_of_lt hc,Nat.mul_comm]
  have tV:U<18446744073709551616:=by simpa using (Dd _ 0 _ _ aa dG).2.2.1
  have hres:cC l p=.ok (ln U) (p+(i+1)):=by rw [cC,dG]
  have hd:(U:Int) / 2 ^ min (Int.toNat 1) IntKind.u64.bits=((U / 2:Nat):Int):=by
   show (U:Int) / 2=_
   omega
  have hz:=XA tV
  have Zp:=LA tV
  rw [hres]
  by_cases pM:i=9
  ·have h1:=B0 pM
   have h2:=hn0 aa
   refine wk ?_
   rw [fZ,hd]
   refine wk ?_
   rw [Aa tV]
   refine H.wg ?_;clear H;intro w H
   rw [hz]
   refine ⟨?_,H.sx⟩
   simp only [xk]
   congr 4
  ·by_cases xO:0<i
   ·have h2:=hn0 xO
    refine wk ?_
    rw [fZ,hd]
    refine wk ?_
    rw [Aa tV]
    refine H.wg ?_;clear H;intro w H
    rw [hz]
    refine ⟨?_,H.sx⟩
    simp only [xk]
    congr 4
   ·refine wk ?_
    rw [fZ,hd]
    refine wk ?_
    rw [Aa tV]
    refine H.wg ?_;clear H;intro w H
    rw [hz]
    refine ⟨?_,H.sx⟩
    simp only [xk]
    congr 4
 ·have pM:¬i=9:=fun h=>by have:=B0 h;omega
  have hnext:=Py j4 hsy hc hg
  by_cases xO:0<i
  ·have h2:=hn0 xO
   refine wk ?_
   refine ⟨sB,(i+1,U),⟨congrArg (fun z=>some (Value.int .u64 z)) fZ,rfl,trivial⟩,⟨aa,aa,?_,?_,H.sx⟩,aa⟩
   ·show U<2 ^ (7*(i+1))
    rw [hpw,hU]
    have:=Nat.mul_le_mul_right (2 ^ (7*i)) (show l[p+i].toNat%128≤127 by omega)
    omega
   ·show eL 0 (l.drop p)=match eL (i+1) (l.drop (p+(i+1))) with|.ok u' m=>.ok (U+2 ^ (7*(i+1))*u') (i+1+m)|e=>e
    rw [hU]
    exact hnext
  ·refine wk ?_
   refine ⟨sB,(i+1,U),⟨congrArg (fun z=>some (Value.int .u64 z)) fZ,rfl,trivial⟩,⟨aa,aa,?_,?_,H.sx⟩,aa⟩
   ·show U<2 ^ (7*(i+1))
    rw [hpw,hU]
    have:=Nat.mul_le_mul_right (2 ^ (7*i)) (show l[p+i].toNat%128≤127 by omega)
    omega
   ·show eL 0 (l.drop p)=match eL (i+1) (l.drop (p+(i+1))) with|.ok u' m=>.ok (U+2 ^ (7*(i+1))*u') (i+1+m)|e=>e
    rw [hU]
    exact hnext
structure EF {α β:Type} (A:β→Value) (R:World→β→α→Prop) (W V:World) (res:fV α) (v:Value) (w':World):Prop where
 ex:∃(V':World) (x:β) (n c i:Int),Sub V V'∧Rel W V [] V' w'∧v=.tuple #[A x,iv n,.agg #[iv c,iv i]]∧(match res with|.bad c' i'=>c=c'∧i=i'∧c'≠0|.ok y q=>c=0∧i=0∧n=q∧R V' x y)
theorem yx {l:List UInt8} {p:Nat} {c i:Int} (h:cC l p=.bad c i):c≠0:=by
 obtain ⟨h,_⟩:=Tr h
 omega
end
abbrev at8 (l:List UInt8) (i:Nat):Nat:=(l[i]?.getD 0).toNat
theorem lx {l:List UInt8} {i:Nat} (h:i<l.length):at8 l i=l[i].toNat:=by simp [at8,h]
section
inductive ah where
 | mk (kind num:Int) (bytes:List UInt8) (names:List (List UInt8)) (parts:List ah)
namespace ah
abbrev kind:ah→Int|.mk k _ _ _ _=>k
abbrev num:ah→Int|.mk _ n _ _ _=>n
abbrev bytes:ah→List UInt8|.mk _ _ b _ _=>b
abbrev names:ah→List (List UInt8)|.mk _ _ _ s _=>s
abbrev parts:ah→List ah|.mk _ _ _ _ p=>p
end ah
instance:Inhabited ah:=⟨.mk 0 0 [] [] []⟩
theorem ah.si {v p:ah} (h:p∈v.parts):SizeOf.sizeOf p<SizeOf.sizeOf v:=by
 cases v
 have:=List.sizeOf_lt_of_mem h
 simp only [ah.mk.sizeOf_spec]
 simp only [ah.parts] at this
 omega
def ij (v:ah):Prop:=(v.num≠0∧v.kind≠1)∨(0<v.bytes.length∧v.kind≠2)∨(0<v.names.length∧v.kind≠4)∨(0<v.parts.length∧v.kind<3)∨(v.kind=4∧v.names.length≠v.parts.length)
instance (v:ah):Decidable (ij v):=by unfold ij;infer_instance
def ee (v:ah):Int :=
 if ¬(1≤v.kind∧v.kind≤4) then 5 else if ij v then 6 else if 600<v.parts.length then 14 else if v.names.any (fun s=>!dp s)=true then 7 else if ¬v.names.Nodup then 8 else 0
def hY (v:ah) (n d:Nat):Int:=if 600≤n∨10≤d then 2 else ee v
def pre (d:Nat):ah→List (ah×Nat)
 | .mk k n b s ps=>(.mk k n b s ps,d)::(if 10<d then [] else (ps.attach.map fun p=>pre (d+1) p.1).take 601).flatten
decreasing_by
 have:=List.sizeOf_lt_of_mem p.2
 simp only [ah.mk.sizeOf_spec]
 omega
theorem vd (d:Nat) (v:ah):pre d v=(v,d)::(if 10<d then [] else ((v.parts.take 601).flatMap (pre (d+1)))):=by
 cases v with
 | mk k n b s ps =>
  rw [pre]
  simp only [ah.parts]
  congr 1
  split
  ·rfl
  ·rw [List.flatMap_def,List.map_take]
   congr 2
   simp [List.map_attach_eq_pmap]
def scan:List (ah×Nat)→Nat→Except (Int×Int) Nat
 | [],n=>.ok n
 | (v,d)::r,n=>if hY v n d≠0 then .error (hY v n d,n) else scan r (n+1)
theorem zj:∀(a b:List (ah×Nat)) (n:Nat),scan (a++b) n=match scan a n with
  | .ok m=>scan b m
  | .error e=>.error e
 | [],b,n=>rfl
 | (v,d)::a,b,n=>by
  simp only [List.cons_append,scan]
  split
  ·rfl
  ·exact zj a b (n+1)
def eH (d:Nat):ah→Nat→Except (Int×Int) Nat:=fun v n=>scan (pre d v) n
def jl (d:Nat) (ps:List ah) (n:Nat):Except (Int×Int) Nat:=scan (ps.flatMap (pre d)) n
theorem NC (d:Nat) (ps:List ah) (p:ah) (n:Nat):jl d (ps++[p]) n=match jl d ps n with
  | .ok m=>eH d p m
  | .error e=>.error e:=by
 unfold jl eH
 rw [List.flatMap_append,zj]
 simp
theorem uX {v:ah} (h:ee v=0):(1≤v.kind∧v.kind≤4)∧¬ij v∧v.parts.length≤600∧(∀s∈v.names,dp s=true)∧v.names.Nodup:=by
 unfold ee at h
 split at h
 ·cases h
 ·rename_i h1
  split at h
  ·cases h
  ·rename_i h2
   split at h
   ·cases h
   ·rename_i h3
    split at h
    ·cases h
    ·rename_i h4
     split at h
     ·cases h
     ·rename_i h5
      refine ⟨Decidable.not_not.1 h1,h2,aa,fun s hs=>?_,Decidable.not_not.1 h5⟩
      simp only [List.any_eq_true,Bool.not_eq_true'] at h4
      exact Decidable.byContradiction fun hn=>h4 ⟨s,hs,by simpa using hn⟩
theorem Ap (d:Nat) (v:ah) (n:Nat):eH d v n=if hY v n d≠0 then .error (hY v n d,n) else jl (d+1) v.parts (n+1):=by
 unfold eH
 rw [vd]
 simp only [scan]
 split
 ·rfl
 ·rename_i h
  have h:=Decidable.not_not.1 h
  unfold hY at h
  split at h
  ·cases h
  ·rename_i h1
   obtain ⟨_,_,h2,_⟩:=uX h
   rw [if_neg aa,List.take_of_length_le aa]
   rfl
theorem zk:∀(l:List (ah×Nat)) (n m:Nat),scan l n=.ok m→m=n+l.length∧∀i v d,l[i]?=some (v,d)→hY v (n+i) d=0
 | [],n,m,h=>by
  simp only [scan] at h
  cases h
  simp
 | (v,d)::l,n,m,h=>by
  simp only [scan] at h
  split at h
  ·cases h
  ·rename_i h1
   obtain ⟨h2,h3⟩:=zk l (n+1) m h
   refine ⟨by simp;omega,fun i v' d' hi=>?_⟩
   cases i with
   | zero =>
    simp at hi
    obtain ⟨rfl,rfl⟩:=hi
    exact Decidable.not_not.1 h1
   | succ i =>
    simp at hi
    have:=h3 i v' d' hi
    rwa [show n+(i+1)=n+1+i by omega]
inductive VB (B:Nat):ah→Prop where
 | mk {v:ah}:bI v.kind→bI v.num→v.bytes.length≤B→v.names.length≤B→(∀s∈v.names,s.length≤B)→v.parts.length≤B→(∀p∈v.parts,VB B p)→VB B v
theorem VB.kind {B:Nat} {v:ah}:VB B v→bI v.kind|.mk h _ _ _ _ _ _=>h
theorem VB.num {B:Nat} {v:ah}:VB B v→bI v.num|.mk _ h _ _ _ _ _=>h
theorem VB.bytes {B:Nat} {v:ah}:VB B v→v.bytes.length≤B|.mk _ _ h _ _ _ _=>h
theorem VB.names {B:Nat} {v:ah}:VB B v→v.names.length≤B|.mk _ _ _ h _ _ _=>h
theorem VB.parts {B:Nat} {v:ah}:VB B v→v.parts.length≤B|.mk _ _ _ _ _ h _=>h
theorem VB.part {B:Nat} {v:ah}:VB B v→∀p∈v.parts,VB B p|.mk _ _ _ _ _ _ h=>h
def enc:ah→List UInt8
 | .mk k n b s ps=>ax k++(if k=1 then ax n else if k=2 then cx b else ax ps.length++ps.attach.zipIdx.flatMap fun p=>(if k=4 then cx (s.getD p.2 []) else [])++enc p.1.1)
decreasing_by
 have:=List.sizeOf_lt_of_mem p.1.2
 simp only [ah.mk.sizeOf_spec]
 omega
def ig (k:Int) (s:List (List UInt8)) (ps:List ah):List UInt8:=ps.zipIdx.flatMap fun p=>(if k=4 then cx (s.getD p.2 []) else [])++enc p.1
theorem AW (v:ah):enc v=ax v.kind++(if v.kind=1 then ax v.num else if v.kind=2 then cx v.bytes else ax v.parts.length++ig v.kind v.names v.parts):=by
 cases v with
 | mk k n b s ps =>
  rw [enc]
  simp only [ah.parts]
  congr 1
  split
  ·rfl
  ·split
   ·rfl
   ·congr 1
    unfold ig
    conv=>rhs;rw [←List.attach_map_subtype_val ps,List.zipIdx_map,List.flatMap_map]
    rfl
theorem OM (k:Int) (s:List (List UInt8)):ig k s []=[]:=rfl
theorem Gm (k:Int) (s:List (List UInt8)) (ps:List ah) (p:ah):ig k s (ps++[p])=ig k s ps++((if k=4 then cx (s.getD ps.length []) else [])++enc p):=by
 unfold ig
 rw [List.zipIdx_append,List.flatMap_append]
 simp
def rV (v:ah):Nat:=if v.kind=1 then 1+(ax v.num).length else if v.kind=2 then 1+(cx v.bytes).length else 1+(ax v.parts.length).length+(v.names.map fun s=>1+s.length).sum
def Tj (v:ah):Nat:=if v.kind=1 then 1+(ax v.num).length else if v.kind=2 then (if 4000<v.bytes.length then 4001 else 1+(cx v.bytes).length) else 1+(ax v.parts.length).length+(v.names.map fun s=>1+s.length).sum
def iY (l:List (ah×Nat)):Nat:=(l.map fun p=>rV p.1).sum
def sz (l:List (ah×Nat)):Nat:=(l.map fun p=>Tj p.1).sum
theorem Wv (a b:List (ah×Nat)):iY (a++b)=iY a+iY b:=by simp [iY]
theorem JN {n:Int} (h0:0≤n) (h:n<64):(ax n).length=1:=by
 unfold ax zz
 rw [if_pos h0,sv aa]
 rfl
theorem yr {s:List UInt8} (h:dp s=true):s.length≤32:=by
 unfold dp at h
 simp at h
 omega
theorem Ul {s:List UInt8} (h:dp s=true):(cx s).length=1+s.length:=by
 have:=yr h
 rw [cx,List.length_append,JN aa aa]
theorem NB {d n m:Nat} {p:ah} {ps:List ah} (h:jl d (p::ps) n=.ok m):∃k,eH d p n=.ok k∧jl d ps k=.ok m:=by
 unfold jl at h
 rw [List.flatMap_cons,zj] at h
 split at h
 ·rename_i k hk
  exact ⟨k,hk,h⟩
 ·cases h
theorem Gl {k:Int} {s:List (List UInt8)}:∀(ps:List ah) (i:Nat),(k=4→i+ps.length≤s.length∧∀x∈s,dp x=true) →
  ((ps.zipIdx i).flatMap fun p=>(if k=4 then cx (s.getD p.2 []) else [])++enc p.1).length=(ps.map fun p=>(enc p).length).sum+(if k=4 then ((s.drop i).take ps.length).map (fun x=>1+x.length) else []).sum
 | [],i,_=>by simp
 | p::ps,i,h=>by
  have ih:=Gl ps (i+1) (fun hk=>by have:=h hk;simp at this;exact ⟨aa,this.2⟩)
  simp only [List.zipIdx_cons,List.flatMap_cons,List.length_append,List.map_cons,List.sum_cons,ih]
  by_cases hk:k=4
  ·obtain ⟨h1,h2⟩:=h hk
   simp only [List.length_cons] at h1
   have hi:i<s.length:=aa
   have hn:=h2 _ (List.getElem_mem hi)
   rw [if_pos hk,if_pos hk,if_pos hk,List.drop_eq_getElem_cons hi]
   simp only [List.length_cons,List.take_succ_cons,List.map_cons,List.sum_cons]
   have:s.getD i []=s[i]:=by simp [List.getD,hi]
   rw [this,Ul hn]
   omega
  ·rw [if_neg hk,if_neg hk,if_neg hk]
   simp
theorem KT (d:Nat):∀(ps:List ah),iY (ps.flatMap (pre d))=(ps.map fun p=>iY (pre d p)).sum
 | []=>rfl
 | p::ps=>by rw [List.flatMap_cons,Wv,KT d ps];simp
theorem wF {d:Nat}:∀ {ps:List ah} {n m:Nat},jl d ps n=.ok m→∀p∈ps,∃a b,eH d p a=.ok b
 | [],_,_,_,p,hp=>by simp at hp
 | q::ps,n,m,h,p,hp=>by
  obtain ⟨k,h1,h2⟩:=NB h
  rcases List.mem_cons.1 hp with rfl|hp
  ·exact ⟨n,k,h1⟩
  ·exact wF h2 p hp
theorem Aq {d n m:Nat} {v:ah} (h:eH d v n=.ok m):n<600∧d<10∧(1≤v.kind∧v.kind≤4)∧¬ij v∧v.parts.length≤600∧(∀s∈v.names,dp s=true)∧v.names.Nodup∧jl (d+1) v.parts (n+1)=.ok m:=by
 rw [Ap] at h
 split at h
 ·cases h
 ·rename_i h0
  have h0:=Decidable.not_not.1 h0
  unfold hY at h0
  split at h0
  ·cases h0
  ·obtain ⟨a,b,c,e,f⟩:=uX h0
   exact ⟨aa,aa,a,b,c,e,f,h⟩
theorem OP (v:ah):∀ {d n m:Nat},eH d v n=.ok m→(enc v).length=iY (pre d v):=by
 induction v using (measure (fun v:ah=>SizeOf.sizeOf v)).wf.induction with
 | _ v ih =>
  intro d n m h
  obtain ⟨h1,h2,h3,h4,h5,h6,h7,h8⟩:=Aq h
  have bS:=JN (n:=v.kind) aa aa
  have hp:iY (v.parts.flatMap (pre (d+1)))=(v.parts.map fun p=>(enc p).length).sum:=by
   rw [KT]
   congr 1
   refine List.map_congr_left fun p hp=>?_
   obtain ⟨a,b,hab⟩:=wF h8 p hp
   exact (ih p (ah.si hp) hab).symm
  have hpre:iY (pre d v)=rV v+iY (v.parts.flatMap (pre (d+1))):=by
   rw [vd,if_neg aa,List.take_of_length_le aa]
   simp [iY]
  rw [hpre,hp,AW]
  unfold ij at h4
  simp only [List.length_append,bS,rV]
  by_cases k1:v.kind=1
  ·have:v.parts=[]:=List.eq_nil_of_length_eq_zero aa
   rw [if_pos k1,if_pos k1,this]
   simp
  ·rw [if_neg k1,if_neg k1]
   by_cases k2:v.kind=2
   ·have:v.parts=[]:=List.eq_nil_of_length_eq_zero aa
    rw [if_pos k2,if_pos k2,this]
    simp
   ·rw [if_neg k2,if_neg k2,List.length_append]
    have he:=Gl (k:=v.kind) (s:=v.names) v.parts 0 (fun hk=>⟨aa,h6⟩)
    rw [ig,he]
    by_cases k4:v.kind=4
    ·rw [if_pos k4]
     have:(v.names.drop 0).take v.parts.length=v.names:=by
      rw [List.drop_zero,List.take_of_length_le aa]
     rw [this]
     omega
    ·rw [if_neg k4]
     have:v.names=[]:=List.eq_nil_of_length_eq_zero aa
     rw [this]
     simp
     omega
def bC (v:ah):Int×Int:=match eH 0 v 0 with
 | .error e=>e
 | .ok _=>if 4000<(enc v).length then (14, -1) else (0,0)
structure VH where
 k:Int
 n:Int
 bs:Sl
 ss:Sl
 pl:Sl
abbrev br (h:VH):List Value:=[iv h.k,iv h.n,h.bs.v,h.ss.v,h.pl.v]
abbrev fG (h:VH):Value:=.agg (br h).toArray
inductive bc (V:World):VH→ah→Prop where
 | mk {h:VH} {v:ah} (hs:List VH):h.k=v.kind→h.n=v.num→ao V h.bs v.bytes→aw oK V h.ss v.names→aw br V h.pl hs→hs.length=v.parts.length →
   (∀(i:Nat) x p,hs[i]?=some x→v.parts[i]?=some p→bc V x p)→bc V h v
section
variable {V V':World} {h:VH} {v:ah}
theorem bc.kind:bc V h v→h.k=v.kind|.mk _ a _ _ _ _ _ _=>a
theorem bc.num:bc V h v→h.n=v.num|.mk _ _ a _ _ _ _ _=>a
theorem bc.bytes:bc V h v→ao V h.bs v.bytes|.mk _ _ _ a _ _ _ _=>a
theorem bc.names:bc V h v→aw oK V h.ss v.names|.mk _ _ _ _ a _ _ _=>a
theorem bc.parts:bc V h v→∃hs:List VH,aw br V h.pl hs∧hs.length=v.parts.length∧∀(i:Nat) x p,hs[i]?=some x→v.parts[i]?=some p→bc V x p|.mk hs _ _ _ _ a b c=>⟨hs,a,b,c⟩
theorem bc.up (k:Sub V V') (a:bc V h v):bc V' h v:=by
 induction a with
 | mk hs a b c d e f _ ih=>exact .mk hs a b (c.up k) (d.up k) (e.up k) f ih
theorem bc.vc (a:bc V h v):h.pl.len=v.parts.length:=by
 obtain ⟨hs,a,b,_⟩:=a.parts
 rw [a.len,b]
theorem bc.part (a:bc V h v) {i:Nat} (hi:i<v.parts.length):Plain h.pl.a∧∃x,bc V x v.parts[i]∧∀j u,(br x)[j]?=some u→V.cell? ⟨aN h.pl.a,aI h.pl.a+i*5+j,none⟩=some u:=by
 obtain ⟨hs,a,b,c⟩:=a.parts
 have pK:i<hs.length:=aa
 obtain ⟨g1,g2⟩:=a.get (n:=5) (fun _=>rfl) aa pK
 exact ⟨g1,hs[i],c i _ _ (List.getElem?_eq_getElem pK) (List.getElem?_eq_getElem hi),g2⟩
theorem bc.yL (a:bc V h v) {i:Nat} (hi:i<v.parts.length):Plain h.pl.a∧∃x,bc V x v.parts[i]∧V.cell? ⟨aN h.pl.a,aI h.pl.a+i*5,none⟩=some (iv x.k)∧V.cell? ⟨aN h.pl.a,aI h.pl.a+i*5+1,none⟩=some (iv x.n)∧V.cell? ⟨aN h.pl.a,aI h.pl.a+i*5+2,none⟩=some x.bs.v ∧
  V.cell? ⟨aN h.pl.a,aI h.pl.a+i*5+3,none⟩=some x.ss.v∧V.cell? ⟨aN h.pl.a,aI h.pl.a+i*5+4,none⟩=some x.pl.v:=by
 obtain ⟨g,x,hx,hc⟩:=a.part hi
 exact ⟨g,x,hx,hc 0 _ rfl,hc 1 _ rfl,hc 2 _ rfl,hc 3 _ rfl,hc 4 _ rfl⟩
end
theorem VB.mono {B B':Nat} (hB:B≤B') {v:ah} (h:VB B v):VB B' v:=by
 induction h with
 | mk a b c d e f _ ih=>exact .mk a b aa aa (fun s hs=>Nat.le_trans (e s hs) hB) aa ih
end
abbrev a8:=UInt8×List UInt8
def cm (l:List UInt8):Nat:=256*at8 l 1+at8 l 2
def qZ:Nat→List UInt8→Option (List a8)
 | 0,_=>none
 | n+1,l=>if l.length=1∧at8 l 0=0 then some [] else if l.length<3∨at8 l 0<65∨90<at8 l 0 then none
  else if l.length - 3<cm l then none else (qZ n (l.drop (3+cm l))).map ((l[0]?.getD 0,(l.drop 3).take (cm l))::·)
def gJ (l:List UInt8):Option (List a8):=qZ (l.length+1) l
theorem Fg:∀(n m:Nat) (l:List UInt8),l.length<n→l.length<m→qZ n l=qZ m l
 | 0,_,l,h,_=>by omega
 | _+1,0,l,_,h=>by omega
 | n+1,m+1,l,h1,h2=>by
  simp only [qZ]
  split
  ·rfl
  ·split
   ·rfl
   ·split
    ·rfl
    ·rename_i h3 h4
     have:(l.drop (3+cm l)).length<l.length:=by simp;omega
     rw [Fg n m _ aa aa]
theorem Ar (l:List UInt8):gJ l=if l.length=1∧at8 l 0=0 then some [] else if l.length<3∨at8 l 0<65∨90<at8 l 0 then none
  else if l.length - 3<cm l then none else (gJ (l.drop (3+cm l))).map ((l[0]?.getD 0,(l.drop 3).take (cm l))::·):=by
 unfold gJ
 rw [qZ]
 split
 ·rfl
 ·split
  ·rfl
  ·split
   ·rfl
   ·rename_i h3 h4
    rw [Fg l.length ((l.drop (3+cm l)).length+1) _ (by simp;omega) aa]
theorem NH:gJ []=none:=by rw [Ar];simp
def lV (c:a8):List UInt8:=c.1::UInt8.ofNat (c.2.length / 256)::UInt8.ofNat (c.2.length%256)::c.2
def wG (c:a8):Prop:=65≤c.1.toNat∧c.1.toNat≤90∧c.2.length≤65535
theorem JL (c:a8):(lV c).length=3+c.2.length:=by simp [lV];omega
theorem wH:∀(n:Nat) (b:List UInt8) (l:List a8),b.length≤n→gJ b=some l→b=l.flatMap lV++[0]∧∀c∈l,wG c
 | 0,b,l,hb,h=>by
  have:b=[]:=List.eq_nil_of_length_eq_zero aa
  subst this
  rw [NH] at h
  cases h
 | n+1,b,l,hb,h=>by
  rw [Ar] at h
  split at h
  ·rename_i h1
   cases h
   obtain ⟨x,rfl⟩:∃x,b=[x]:=by
    match b,h1.1 with
    | [x],_=>exact ⟨x,rfl⟩
   refine ⟨?_,ae⟩
   have:=h1.2
   simp only [at8,List.getElem?_cons_zero,Option.getD_some] at this
   have:x=0:=UInt8.toNat_inj.1 this
   rw [this]
   rfl
  ·split at h
   ·cases h
   ·split at h
    ·cases h
    ·rename_i h1 h2 h3
     cases hr:gJ (b.drop (3+cm b)) with
     | none=>rw [hr] at h;cases h
     | some l' =>
      rw [hr] at h
      simp only [Option.map_some,Option.some.injEq] at h
      subst h
      obtain ⟨a1,a2⟩:=wH n _ l' (by simp;omega) hr
      have hlen:((b.drop 3).take (cm b)).length=cm b:=by simp;omega
      have hlt:cm b≤65535:=by
       have p1:=(b[1]?.getD 0).toNat_lt
       have p2:=(b[2]?.getD 0).toNat_lt
       unfold cm at8
       omega
      refine ⟨?_,fun c hc=>?_⟩
      ·match b,h2 with
       | [],h2=>simp at h2
       | [_],h2=>simp at h2
       | [_,_],h2=>simp at h2
       | x::y::z::r,h2 =>
        simp only [List.flatMap_cons,lV,hlen,List.cons_append,List.append_assoc]
        rw [←a1]
        have p1:=y.toNat_lt
        have p2:=z.toNat_lt
        have q0:cm (x::y::z::r)=256*y.toNat+z.toNat:=rfl
        have q1:UInt8.ofNat (cm (x::y::z::r) / 256)=y:=by
         apply UInt8.toNat_inj.1
         rw [q0,bW aa]
         omega
        have q2:UInt8.ofNat (cm (x::y::z::r)%256)=z:=by
         apply UInt8.toNat_inj.1
         rw [q0,bW aa]
         omega
        rw [q1,q2]
        have q3:(x::y::z::r).drop (3+cm (x::y::z::r))=r.drop (cm (x::y::z::r)):=by rw [←List.drop_drop];rfl
        rw [q3]
        simp
      ·rcases List.mem_cons.1 hc with rfl|hc
       ·refine ⟨?_,?_,by rw [hlen];exact hlt⟩
        ·show 65≤at8 b 0
         omega
        ·show at8 b 0≤90
         omega
       ·exact a2 c hc
def la (l:List UInt8):Option (List a8):=if l.take 4=[83,78,68,49] then gJ (l.drop 4) else none
def dy (wide:Bool) (l:List UInt8):List Nat:=if wide=true then (List.range (l.length / 2)).map (fun k=>at8 l (2*k)+256*at8 l (2*k+1)) else (List.range l.length).map (at8 l)
theorem qk (wide:Bool) (l:List UInt8):(dy wide l).length=if wide=true then l.length / 2 else l.length:=by
 unfold dy
 split<;>simp
theorem yV {l:List UInt8} {k:Nat} (h:k<l.length / 2):(dy true l)[k]?=some (at8 l (2*k)+256*at8 l (2*k+1)):=by
 simp [dy,h]
theorem yU {l:List UInt8} {k:Nat} (h:k<l.length):(dy false l)[k]?=some (at8 l k):=by
 simp [dy,h]
def cg (df:Bool) (ch full:Nat) (l:List Nat):List Nat:=l.foldl (fun acc r=>acc++[if df=true∧ch≤acc.length then (r+acc[acc.length - ch]?.getD 0)%full else r]) []
theorem Xp (df:Bool) (ch full:Nat):cg df ch full []=[]:=rfl
theorem zC (df:Bool) (ch full:Nat) (l:List Nat) (r:Nat):cg df ch full (l++[r])=cg df ch full l++[if df=true∧ch≤(cg df ch full l).length then (r+(cg df ch full l)[(cg df ch full l).length - ch]?.getD 0)%full else r]:=by
 unfold cg
 rw [List.foldl_append]
 rfl
theorem sL (df:Bool) (ch full:Nat) (l:List Nat):(cg df ch full l).length=l.length:=by
 have:∀n (l:List Nat),l.length=n→(cg df ch full l).length=l.length:=by
  intro n
  induction n with
  | zero=>intro l h;rw [List.eq_nil_of_length_eq_zero h];rfl
  | succ n ih =>
   intro l h
   obtain ⟨i,x,rfl⟩:∃i x,l=i++[x]:=by
    rcases List.eq_nil_or_concat l with rfl|⟨i,x,rfl⟩
    ·simp at h
    ·exact ⟨i,x,ae⟩
   rw [zC,List.length_append,ih i (by simpa using h)]
   simp
 exact this _ l rfl
theorem Lr {df:Bool} {ch full:Nat} {l:List Nat} {k r:Nat} (h:l[k]?=some r):cg df ch full (l.take (k+1))=cg df ch full (l.take k)++[if df=true∧ch≤k then (r+(cg df ch full (l.take k))[k - ch]?.getD 0)%full else r]:=by
 have hlt:=(List.getElem?_eq_some_iff.1 h).1
 have he:=(List.getElem?_eq_some_iff.1 h).2
 have hl:(cg df ch full (l.take k)).length=k:=by rw [sL,List.length_take];omega
 rw [List.take_succ_eq_append_getElem hlt,zC,hl,he]
def c8 (wide:Bool):Nat:=if wide then 65536 else 256
def dS (wide:Bool) (u:Nat):Int:=if wide then (if 32768≤u then (u:Int) - 65536 else u) else ((u:Int) - 128)*256
def bd (coding:Nat):Bool:=decide (coding%2=1)
def gQ (coding:Nat):Bool:=decide (2≤coding)
def fA (b:List UInt8) (coding ch:Nat):List Int:=(cg (gQ coding) ch (c8 (bd coding)) (dy (bd coding) b)).map (dS (bd coding))
def iA (wide:Bool) (v:Int):Nat:=if wide then (v%65536).toNat else ((v / 256+128)%256).toNat
def l6 (df:Bool) (ch full:Nat) (l:List Nat) (i:Nat):Nat:=if df=true∧ch≤i then (l[i]?.getD 0+full - l[i - ch]?.getD 0)%full else l[i]?.getD 0
def eE (wide:Bool) (u:Nat):List UInt8:=if wide then [UInt8.ofNat (u%256),UInt8.ofNat (u / 256)] else [UInt8.ofNat u]
def oG (l:List Int) (coding ch:Nat):List UInt8:=(List.range l.length).flatMap fun i=>eE (bd coding) (l6 (gQ coding) ch (c8 (bd coding)) (l.map (iA (bd coding))) i)
abbrev bZ (c:a8):Bool:=c.1 == 70||c.1 == 68
abbrev dC:=Int×a8
def dq:Nat→List a8→List dC
 | _,[]=>[]
 | i,c::l=>if bZ c=true then dq (i+1) l else ((i:Int),c)::dq (i+1) l
theorem uZ:∀(l:List a8) (i:Nat) (c:a8),dq i (l++[c])=dq i l++(if bZ c=true then [] else [(((i+l.length:Nat):Int),c)])
 | [],i,c=>by
  simp only [List.nil_append,dq,List.length_nil,Nat.add_zero]
 | d::l,i,c=>by
  have e:i+1+l.length=i+(d::l).length:=by simp;omega
  simp only [List.cons_append,dq]
  split
  ·rw [uZ l (i+1) c,e]
  ·rw [uZ l (i+1) c,e];rfl
theorem rX:∀(l:List a8) (i:Nat),∀n∈dq i l,(i:Int)≤n.1∧n.1<((i+l.length:Nat):Int)∧n.2∈l∧bZ n.2=false
 | [],_,n,h=>by simp [dq] at h
 | c::l,i,n,h=>by
  simp only [dq] at h
  have iJ:n∈dq (i+1) l→(i:Int)≤n.1∧n.1<((i+(c::l).length:Nat):Int)∧n.2∈c::l∧bZ n.2=false:=fun h=>by
   obtain ⟨h1,h2,h3,h4⟩:=rX l (i+1) n h
   refine ⟨aa,by simp only [List.length_cons];omega,by simp [h3],h4⟩
  split at h
  ·exact iJ h
  ·rename_i hf
   rcases List.mem_cons.1 h with rfl|h
   ·exact ⟨aa,by simp only [List.length_cons];omega,ae,by simpa using hf⟩
   ·exact iJ h
theorem CR:∀(l:List a8) (i:Nat),(dq i l).length+(l.filter bZ).length=l.length
 | [],_=>rfl
 | c::l,i=>by
  have:=CR l (i+1)
  simp only [dq]
  by_cases h:bZ c=true
  ·rw [if_pos h,List.filter_cons_of_pos h]
   simp only [List.length_cons]
   omega
  ·rw [if_neg h,List.filter_cons_of_neg h]
   simp only [List.length_cons]
   omega
theorem CQ:∀(l:List a8) (i:Nat),(dq i l).Pairwise fun a b=>a.1<b.1
 | [],_=>List.Pairwise.nil
 | c::l,i=>by
  simp only [dq]
  split
  ·exact CQ l (i+1)
  ·exact List.pairwise_cons.2 ⟨fun b hb=>by have:=(rX l (i+1) b hb).1;show (i:Int)<_;omega,CQ l (i+1)⟩
def oS:Nat→Nat→List dC→List a8→List a8
 | 0,_,_,_=>[]
 | n+1,i,[],own=>own.head?.getD (0,[])::oS n (i+1) [] own.tail
 | n+1,i,m::r,own=>if m.1=(i:Int) then m.2::oS n (i+1) r own else own.head?.getD (0,[])::oS n (i+1) (m::r) own.tail
theorem LU:∀(l:List a8) (i:Nat),oS l.length i (dq i l) (l.filter bZ)=l
 | [],_=>rfl
 | c::l,i=>by
  have ih:=LU l (i+1)
  simp only [dq,List.length_cons]
  by_cases h:bZ c=true
  ·rw [if_pos h,List.filter_cons_of_pos h]
   cases hn:dq (i+1) l with
   | nil =>
    rw [hn] at ih
    simp only [oS,List.head?_cons,Option.getD_some,List.tail_cons,ih]
   | cons m r =>
    have:=(rX l (i+1) m (by rw [hn];simp)).1
    rw [hn] at ih
    simp only [oS]
    rw [if_neg aa]
    simp only [List.head?_cons,Option.getD_some,List.tail_cons,ih]
  ·rw [if_neg h,List.filter_cons_of_neg h]
   simp only [oS]
   rw [if_pos trivial,ih]
def cV (n:dC):List UInt8:=ax n.1++n.2.1::cx n.2.2
def uY (l:List UInt8) (p:Nat):fV dC :=
 match cC l p with
 | .bad c i=>.bad c i
 | .ok n q=>match l[q]? with
  | none=>.bad 15 q
  | some x=>match wI l (q+1) with
   | .bad c i=>.bad c i
   | .ok d r=>.ok (n,x,d) r
theorem Tm {n:dC} (h1 : -9223372036854775808≤n.1∧n.1≤9223372036854775807) (h2:n.2.2.length≤1099511627776) {l r:List UInt8} {p:Nat} (hp:p≤l.length) (h:l.drop p=cV n++r):uY l p=.ok n (p+(cV n).length):=by
 have e:l=l.take p++(cV n++r):=by rw [←h,List.take_append_drop]
 have hpl:(l.take p).length=p:=by simp;omega
 unfold cV at e
 have n1:=gS h1.1 h1.2 (l.take p) (n.2.1::cx n.2.2++r)
 rw [hpl,show l.take p++(ax n.1++(n.2.1::cx n.2.2++r))=l by rw [List.append_assoc] at e;exact e.symm] at n1
 have e2:l=(l.take p++(ax n.1++[n.2.1]))++(cx n.2.2++r):=by
  conv=>lhs;rw [e]
  simp
 have hq:l[p+(ax n.1).length]?=some n.2.1:=by
  rw [e2,List.getElem?_append_left (by simp;omega),List.getElem?_append_right aa,hpl]
  simp
 have n2:=Fh h2 (l.take p++(ax n.1++[n.2.1])) r
 rw [←e2,show (l.take p++(ax n.1++[n.2.1])).length=p+(ax n.1).length+1 by simp only [List.length_append,hpl,List.length_singleton];omega] at n2
 unfold uY
 rw [n1]
 simp only
 rw [hq]
 simp only
 rw [n2]
 simp only [cV,List.length_append,List.length_cons]
 congr 1
 omega
structure ED (m:Nat) (last:Int) (n:dC):Prop where
 lo:65≤n.2.1.toNat
 hi:n.2.1.toNat≤90
 ne:bZ n.2=false
 aP:last<n.1
 dW:n.1<m+2
instance (m:Nat) (last:Int) (n:dC):Decidable (ED m last n):=decidable_of_iff (65≤n.2.1.toNat∧n.2.1.toNat≤90∧bZ n.2=false∧last<n.1∧n.1<m+2) ⟨fun ⟨a,b,c,d,e⟩=>⟨a,b,c,d,e⟩,fun ⟨a,b,c,d,e⟩=>⟨a,b,c,d,e⟩⟩
def oe (m:Nat) (last:Int):List dC→Bool
 | []=>true
 | n::r=>decide (ED m last n)&&oe m n.1 r
theorem Jf {m:Nat}:∀ {l:List dC} {a:Int},oe m a l=true→l.Pairwise (fun a b=>a.1<b.1)∧∀n∈l,a<n.1∧n.1<m+2∧bZ n.2=false∧65≤n.2.1.toNat∧n.2.1.toNat≤90
 | [],_,_=>⟨List.Pairwise.nil,ae⟩
 | n::l,a,h=>by
  simp only [oe,Bool.and_eq_true,decide_eq_true_eq] at h
  obtain ⟨h1,h2⟩:=h
  obtain ⟨g1,g2⟩:=Jf h2
  refine ⟨List.pairwise_cons.2 ⟨fun b hb=>(g2 b hb).1,g1⟩,fun x hx=>?_⟩
  rcases List.mem_cons.1 hx with rfl|hx
  ·exact ⟨h1.aP,h1.dW,h1.ne,h1.lo,h1.hi⟩
  ·obtain ⟨q1,q2⟩:=g2 x hx
   have:=h1.aP
   exact ⟨aa,q2⟩
theorem Jg {m:Nat}:∀ {l:List dC} {a:Int},l.Pairwise (fun a b=>a.1<b.1)→(∀n∈l,a<n.1∧n.1<m+2∧bZ n.2=false∧65≤n.2.1.toNat∧n.2.1.toNat≤90)→oe m a l=true
 | [],_,_,_=>rfl
 | n::l,a,hp,h=>by
  obtain ⟨q1,q2⟩:=List.pairwise_cons.1 hp
  obtain ⟨a1,a2,a3,a4,a5⟩:=h n ae
  simp only [oe,Bool.and_eq_true,decide_eq_true_eq]
  exact ⟨⟨a4,a5,a3,a1,a2⟩,Jg q2 fun x hx=>⟨q1 x hx,(h x (by simp [hx])).2⟩⟩
def iy (coding:Nat) (ns:List dC):List UInt8:=if coding=1∧ns=[] then [] else ax coding++bj cV ns
def vA (b:List UInt8):Option (Nat×List dC) :=
 if b=[] then some (1,[]) else match cC b 0 with
  | .bad _ _=>none
  | .ok c p=>if c<0∨4≤c then none else match dK b (uY b) 1000 p with
   | .bad _ _=>none
   | .ok ns q=>if q≠b.length∨(c=1∧ns=[]) then none else if oe ns.length (-1) ns=true then some (c.toNat,ns) else none
theorem VY {coding:Nat} {ns:List dC} (hc:coding<4) (hl:ns.length≤1000) (hok:oe ns.length (-1) ns=true) (hd:∀n∈ns,n.2.2.length≤1099511627776):vA (iy coding ns)=some (coding,ns):=by
 unfold iy
 split
 ·rename_i h
  obtain ⟨rfl,rfl⟩:=h
  rfl
 ·rename_i hne
  obtain ⟨b,hb⟩:∃b,b=ax (coding:Int)++bj cV ns:=⟨_,rfl⟩
  rw [←hb]
  have hp:=kh (zz (coding:Int))
  have hbl:b≠[]:=by
   intro h
   rw [h] at hb
   have:=congrArg List.length hb
   simp only [List.length_nil,List.length_append,ax] at this
   omega
  have n1:=gS (n:=(coding:Int)) aa aa [] (bj cV ns)
  simp only [List.nil_append,←hb,List.length_nil,Nat.zero_add] at n1
  have n2:=gS (n:=(ns.length:Int)) aa aa (ax (coding:Int)) (ns.flatMap cV)
  have gO:ax (coding:Int)++(ax (ns.length:Int)++ns.flatMap cV)=b:=hb.symm
  rw [gO] at n2
  have Bz:=congrArg List.length gO
  simp only [List.length_append] at Bz
  have hall:=(Jf hok).2
  have n3:=rT (f:=cV) (b:=b) (one:=uY b) ns ((ax (coding:Int)).length+(ax (ns.length:Int)).length) aa (fun x hx q r hq h=>Tm (by
   obtain ⟨a1,a2,_⟩:=hall x hx
   constructor<;>omega) (hd x hx) hq h) [] (by
    rw [←gO,←List.append_assoc,←List.length_append,List.drop_left]
    simp)
  have n4:dK b (uY b) 1000 (ax (coding:Int)).length=.ok ns b.length:=by
   unfold dK
   rw [n2]
   simp only
   rw [if_neg aa,Int.toNat_natCast,n3]
   congr 1
   omega
  unfold vA
  rw [if_neg hbl,n1]
  simp only
  rw [if_neg aa,n4]
  simp only
  rw [if_neg (by
   rintro (h|⟨h1,h2⟩)
   ·exact h rfl
   ·exact hne ⟨aa,h2⟩),if_pos hok,Int.toNat_natCast]
section
variable {V W:World}
theorem wY (hV:Sub V W) {x y:Sl} {a b:List UInt8} (hx:ao V x a) (hy:ao V y b):aj Tryz.prog 129 [x.v,y.v].toArray W fun v w'=>v=.bool (decide (a=b))∧Rel W V [] V w':=by
 have H:=Rel.start hV
 have h1:=hx.len
 have h2:=hy.len
 have mD:Cells W x.a (a.map bv):=fm a ▸ (hx.up hV).cells
 have Qo:Cells W y.a (b.map bv):=fm b ▸ (hy.up hV).cells
 refine eV Tryz.func129 10 [0,1,4] ?_
 refine wk ?_
 exact H
theorem xy (hV:Sub V W) {x y:Sl} {a b:List UInt8} (hx:ao V x a) (hy:ao V y b):aj Tryz.prog 190 [x.v,y.v].toArray W fun v w'=>v=.bool (decide (a.take b.length=b))∧Rel W V [] V w':=by
 have H:=Rel.start hV
 have h1:=hx.len
 have h2:=hy.len
 have hc:=hx.cap
 refine eV Tryz.func190 18 [0,1,4] ?_
 by_cases hl:b.length≤a.length
 ·have dJ:=hx.sub (n:=1) (fun _=>rfl) (a:=0) (b:=y.len) aa aa
  rw [List.drop_zero] at dJ
  refine wk ?_
  refine (wY H.data dJ hy).use ?_
  rintro v w ⟨rfl,K⟩
  (replace H:=Rel.call H K)
  refine wk ?_
  exact ⟨by rw [h2],H.sx⟩
 ·refine wk ?_
  refine ⟨?_,H.sx⟩
  rw [decide_eq_false]
  intro h
  have:=congrArg List.length h
  simp at this
  omega
theorem tx (hV:Sub V W) {x y:Sl} {a b:List UInt8} (hx:ao V x a) (hy:ao V y b):aj Tryz.prog 192 [x.v,y.v].toArray W fun v w'=>(∃r:Sl,v=.tuple #[r.v,.bool (decide (a.take b.length=b))]∧(a.take b.length=b→ao V r (a.drop b.length)))∧Rel W V [] V w':=by
 have H:=Rel.start hV
 have h1:=hx.len
 have h2:=hy.len
 have hc:=hx.cap
 refine eV Tryz.func192 15 [0,1,4,5,9] ?_
 refine wk ?_
 refine (xy H.data hx hy).use ?_
 rintro v w ⟨rfl,K⟩
 (replace H:=H.aq K)
 by_cases hp:a.take b.length=b
 ·have hl:b.length≤a.length:=by
   have:=congrArg List.length hp
   simp at this
   omega
  have dJ:=hx.sub (n:=1) (fun _=>rfl) (a:=y.len) (b:=x.len) aa aa
  rw [h1,List.take_length] at dJ
  rw [decide_eq_true hp]
  refine wk ?_
  refine ⟨⟨⟨aD x.a y.len x.cap 1,x.len - y.len,x.cap - y.len⟩,rfl,fun _=>?_⟩,H.sx⟩
  rw [h1]
  rw [h2] at dJ ⊢
  exact dJ
 ·rw [decide_eq_false hp]
  refine wk ?_
  exact ⟨⟨x,rfl,fun h=>absurd h hp⟩,H.sx⟩
theorem pa (hV:Sub V W) {s:Sl} {l:List UInt8} (hs:ao V s l) (hl:l.length≤1000000000):aj Tryz.prog 73 [s.v].toArray W fun v w'=>∃r:Sl,v=r.v∧Rel W V [.row r 5 1 (l.flatMap ay)] V w':=by
 have H:=Rel.start hV
 have hlen:=hs.len
 refine eV Tryz.func73 8 [0,2,4] ?_
 rcases s with ⟨_|p,n,c⟩
 ·have mI:l=[]:=by
   rcases l with _|⟨b,l⟩
   ·rfl
   ·have:=hs.cells.1 (by simp [fm])
    simp [Plain] at this
  subst mI
  refine wk ?_
  exact ⟨⟨none,0,0⟩,rfl,H.bw _ _⟩
 ·refine wk ?_
  refine H.nA ?_;clear H;intro w b5 H
  refine wk ?_
  replace H:=H.gj (n:=0) (e:=5) (sz:=1) rfl (by simp [maxLen])
  refine Rel.gn (s:=⟨some ⟨b5,0,none⟩,0,0⟩) (xs:=[]) H (i:=0) rfl hs (by simp;omega) ?_
  clear H
  intro r1 w H
  simp only [List.set_cons_zero] at H
  rw [List.nil_append] at H
  refine wk ?_
  exact ⟨r1,rfl,H⟩
end
section
variable {w0 V0 V w:World} {own:List ak}
theorem Rel.N8 {P:Program} {src dst e:TypeId} (hs:P.underlying src=some .string) (hd:P.underlying dst=some (.slice e)) (he:P.underlying e=some (.int .u8)) (H:Rel w0 V0 own V w) (l:List UInt8) {k:Value→World→Prop}
  (hk:∀V' s w',Ext w w'→Sub V V'→ao V' s l→Rel w0 V0 own V' w'→k s.v w'):aH P (convert src dst (str l)) w k:=by
 refine .of (run_bytes_of_string w src dst e _ hs hd he) ?_
 have xM:Ext w (w.drew.alloc (.cells (bytesRow ⟨l.toArray⟩ (grownCap w (ByteArray.size ⟨l.toArray⟩) 0 e)) e ((bytesRow ⟨l.toArray⟩ (grownCap w (ByteArray.size ⟨l.toArray⟩) 0 e)).size,(bytesRow ⟨l.toArray⟩ (grownCap w (ByteArray.size ⟨l.toArray⟩) 0 e)).size+1))) :=
  ⟨rfl,rfl,rfl,ae,fun c hc=>heap_alloc_old w.drew _ c hc⟩
 obtain ⟨V',h1,h2,h3⟩:=(H.ext xM).freeze (List.Sublist.refl _)
 refine hk V' ⟨some ⟨w.heap.size,0,none⟩,l.length,_⟩ _ xM h1 ⟨rfl,grownCap_ge w _ 0 e,?_⟩ h2
 have hv:=h3 w.heap.size _ _ _ H.base.size (heap_alloc_new w.drew _) (fun r hr hb=>by have:=ak.lt (H.laid r hr) hb;omega)
 refine ⟨fun _=>rfl,fun j v hj=>?_⟩
 simp only [aN,aI,Nat.zero_add]
 rw [fm] at hj
 simp only [World.cell?,hv]
 have eM:j<l.length:=by have:=(List.getElem?_eq_some_iff.1 hj).1;simpa using this
 rw [List.getElem?_map,List.getElem?_eq_getElem eM] at hj
 simp only [Option.map_some,Option.some.injEq] at hj
 subst hj
 rw [bytesRow,Array.getElem?_append_left (by simpa using eM)]
 simp [eM]
end
theorem aw.dW {V:World} {α:Type} {f:α→List Value} {s:Sl} {l:List α} (h:aw f V s l) {g g':α→Value} (hf:∀x,f x=[g x,g' x]) {i:Nat} (hi:i<l.length):Plain s.a∧V.cell? ⟨aN s.a,aI s.a+i*2,none⟩=some (g l[i])∧V.cell? ⟨aN s.a,aI s.a+i*2+1,none⟩=some (g' l[i]):=by
 obtain ⟨h1,h2⟩:=h.get (n:=2) (fun x=>by rw [hf];rfl) aa hi
 exact ⟨h1,h2 0 _ (by rw [hf];rfl),h2 1 _ (by rw [hf];rfl)⟩
theorem bD.ia {V:World} {b n:Nat} {l:List UInt8} {t:TypeId} (h:bD V b (l.map bv) t) (hn:n=l.length):ao V ⟨some ⟨b,0,none⟩,n,n⟩ l:=⟨hn,Nat.le_refl _,by rw [fm];exact h.cells⟩
def nu (V:World) (g:FuncId) (cap:List Value) (a:Value) (bs:List UInt8):Prop :=
 ∀V1 W1,Sub V V1→Sub V1 W1→aj Tryz.prog g (a::cap).toArray W1 fun v w'=>∃(V2:World) (r:Sl),Sub V1 V2∧v=r.v∧ao V2 r bs∧Rel W1 V1 [] V2 w'
theorem xf {α:Type} {enc:α→List UInt8} {l:List α} {k:Nat} (hk:k<l.length):((l.take k).flatMap enc).length+(enc l[k]).length≤(l.flatMap enc).length:=by
 conv=>rhs;rw [←List.take_append_drop k l,List.flatMap_append,List.drop_eq_getElem_cons hk,List.flatMap_cons]
 simp only [List.length_append]
 omega
theorem xe {α:Type} {enc:α→List UInt8} {l:List α} {k:Nat} {a:List UInt8} (hk:k<l.length):a++(l.take k).flatMap enc++enc l[k]=a++(l.take (k+1)).flatMap enc:=by
 rw [List.take_succ_eq_append_getElem hk,List.flatMap_append,List.append_assoc]
 simp only [List.flatMap_cons,List.flatMap_nil,List.append_nil]
structure Pw {α β:Type} (R:World→β→α→Prop) (V:World) (xs:List β) (ys:List α):Prop where
 len:xs.length=ys.length
 all:∀(k:Nat) x y,xs[k]?=some x→ys[k]?=some y→R V x y
section
variable {α β:Type} {R:World→β→α→Prop} {V V':World} {xs:List β} {ys:List α}
theorem Pw.nil:Pw R V [] []:=⟨rfl,fun k x y h=>by simp at h⟩
theorem Pw.up (hR:∀V V' x y,Sub V V'→R V x y→R V' x y) (h:Pw R V xs ys) (hs:Sub V V'):Pw R V' xs ys:=⟨h.len,fun k x y h1 h2=>hR _ _ _ _ hs (h.all k x y h1 h2)⟩
theorem Pw.snoc (h:Pw R V xs ys) {x:β} {y:α} (hx:R V x y):Pw R V (xs++[x]) (ys++[y]):=by
 refine ⟨by simp [h.len],fun k a b h1 h2=>?_⟩
 have hl:=h.len
 by_cases hk:k<xs.length
 ·rw [List.getElem?_append_left hk] at h1
  rw [List.getElem?_append_left aa] at h2
  exact h.all k a b h1 h2
 ·rw [List.getElem?_append_right aa] at h1 h2
  have e:k - xs.length=0:=by
   have:=(List.getElem?_eq_some_iff.1 h1).1
   simp at this;omega
  rw [e] at h1
  rw [←hl,e] at h2
  cases h1
  cases h2
  exact hx
theorem Pw.eq {xs ys:List α} (h:Pw (fun _ x y=>x=y) V xs ys):xs=ys:=by
 refine List.ext_getElem h.len fun k h1 h2=>?_
 exact h.all k _ _ (List.getElem?_eq_getElem h1) (List.getElem?_eq_getElem h2)
end
def RL {α β:Type} (f:β→List Value) (R:World→β→α→Prop) (V:World) (r:Sl) (ys:List α):Prop:=∃xs,aw f V r xs∧Pw R V xs ys
section
variable {w0 V0 V w:World} {own:List ak}
theorem Rel.dO {α:Type} {f:α→List Value} {n:Nat} {l:List α} {i:Nat} {s:Sl} {e:TypeId} (H:Rel w0 V0 own V w) (hi:own[i]?=some (.row s e n (l.flatMap f))) (hf:∀x,(f x).length=n) (hn:0<n):aw f w s l:=by
 have hr:=H.rowAt hi
 refine ⟨H.dz hi hf hn,?_,hr.cells⟩
 rcases hr.at_ with ⟨_,h2,h3⟩|⟨b,cur,_,_,h3,_⟩
 ·omega
 ·exact h3
theorem Rel.VQ {i:Nat} {s:Sl} {e sz:Nat} {xs:List Value} (H:Rel w0 V0 own V w) (hi:own[i]?=some (.row s e sz xs)) {k:Nat} (hk:k≤s.len):Rel w0 V0 (own.set i (.row ⟨aD s.a 0 s.cap sz,k - 0,s.cap - 0⟩ e sz (xs.take (k*sz)))) V w:=by
 have hr:=H.rowAt hi
 have dJ:aD s.a 0 s.cap sz=s.a:=by
  rcases hr.at_ with ⟨h1,_⟩|⟨b,cur,h1,_⟩
  ·rw [h1,Wr]
  ·rw [h1]
   unfold aD
   split
   ·rfl
   ·simp [Addr.add]
 refine H.put hi rfl rfl rfl (Nat.le_refl _) (fun c _ _=>rfl) ?_ fun b hb=>.inl ?_
 ·rw [dJ]
  refine ⟨by rw [List.length_take,hr.len];simp only [Nat.sub_zero];exact Nat.min_eq_left (Nat.mul_le_mul_right _ hk),?_⟩
  rcases hr.at_ with ⟨h1,h2,h3⟩|⟨b,cur,h1,h2,h3,h4,h5,h6⟩
  ·exact .inl ⟨h1,by simp only [];omega,by simp only [];omega⟩
  ·refine .inr ⟨b,cur,h1,h2,by simp only [];omega,by simp only [];omega,by simpa using h5,?_⟩
   rw [←h6,List.take_take]
   simp only [Nat.sub_zero]
   rw [Nat.min_eq_left (Nat.mul_le_mul_right _ hk)]
 ·simpa [ak.at_,dJ] using hb
end
section
variable {w0 V0 V w:World} {own:List ak}
theorem Vo (P:Program) (w:World) (t e:TypeId) {b n c:Nat} {l:List Value} {u:TypeId} (ht:P.underlying t=some (.slice e)) (he:P.underlying e=some (.int .u8)) (hb:bD w b l u) :
  (convert t t (.slice (some ⟨b,0,none⟩) n c)).run P w=.ok (.slice (some ⟨b,0,none⟩) n c) { w with heap:=w.heap.setIfInBounds b (.cells l.toArray u (l.length,l.length+1)) }:=by
 have hsh:w.shape? b=some (u,l.length):=by
  unfold World.shape?
  rw [show w.heap[b]?=_ from hb]
  simp
 have hfr:w.freeze ⟨b,l.length,none⟩ 1={ w with heap:=w.heap.setIfInBounds b (.cells l.toArray u (l.length,l.length+1)) }:=by
  unfold World.freeze
  rw [if_neg ag]
  congr 1
  have hlt:=hb.lt
  have dG:w.heap[b]=.cells l.toArray u (0,0):=(Array.getElem?_eq_some_iff.1 hb).2
  apply Array.ext
  ·simp
  ·intro i h1 h2
   have h3:i<w.heap.size:=by simpa using h2
   rw [Array.getElem_setIfInBounds (by simpa using h2),Array.getElem_modify]
   by_cases h:b=i
   ·subst h
    simp [dG]
   ·simp [h]
 simp [convert,run_underlying ht,run_underlying he,markStringish,hsh,hfr]
theorem Rel.tv {P:Program} {t e:TypeId} (ht:P.underlying t=some (.slice e)) (he:P.underlying e=some (.int .u8)) {b:Nat} {l:List UInt8} {u:TypeId} (H:Rel w0 V0 (.al b (l.flatMap ay) u::own) V w) {n:Nat} (hn:n=l.length) {k:Value→World→Prop}
  (hk:∀V' w',Sub V V'→ao V' ⟨some ⟨b,0,none⟩,n,n⟩ l→Rel w0 V0 own V' w'→k (.slice (some ⟨b,0,none⟩) n n) w'):aH P (convert t t (.slice (some ⟨b,0,none⟩) n n)) w k:=by
 have hb:=H.qW
 refine .of (Vo P w t e ht he hb) ?_
 have hlt:=hb.lt
 have H2:Rel w0 V0 (.obj b (.cells (l.flatMap ay).toArray u ((l.flatMap ay).length,(l.flatMap ay).length+1))::own) V { w with heap:=w.heap.setIfInBounds b (.cells (l.flatMap ay).toArray u ((l.flatMap ay).length,(l.flatMap ay).length+1)) } :=
  H.put (i:=0) rfl rfl rfl rfl ae (fun c hc hne=>by
   have:b≠c:=fun e=>hne (by rw [e];rfl)
   simp [Array.getElem?_setIfInBounds_ne this]) (by simp [ak.laid,hlt]) fun c hc=>.inl hc
 obtain ⟨V',h1,h2,h3⟩:=H2.freeze (List.sublist_cons_self _ _)
 refine hk V' _ h1 ⟨hn,Nat.le_refl _,fun _=>rfl,fun j v hj=>?_⟩ h2
 have hv:=h3 b _ _ _ (H.new (.al b (l.flatMap ay) u) ae b rfl) (H2.Tx (i:=0) rfl) (fun r hr ft=>(List.pairwise_cons.1 H.apart).1 r hr b rfl ft)
 simp only [World.cell?,aN,aI,Nat.zero_add,hv]
 simpa using hj
theorem Rel.AA {P:Program} {s d:TypeId} (hs:(P.underlying s).isSome=true) (hd:P.underlying d=some .string) {k:IntKind} {n:Int} {G:Value→World→Prop} (hk:G (.string (Utf8.encode n)) w):aH P (convert s d (.int k n)) w G :=
 .of (run_convert_int_string w s d k n hs hd) hk
theorem Rel.N7 {P:Program} {s d e:TypeId} (hs:P.underlying s=some (.slice e)) (he:P.underlying e=some (.int .i32)) (hd:P.underlying d=some .string) {b:Nat} {zs:List Int} {u:TypeId} (H:Rel w0 V0 (.al b (zs.map (Value.int .i32)) u::own) V w) {n:Nat} (hn:n=zs.length) {G:Value→World→Prop}
  (hk:G (.string (runesBytes zs)) w):aH P (convert s d (.slice (some ⟨b,0,none⟩) n n)) w G:=by
 refine .of (run_convert_runes w s d e ⟨b,0,none⟩ n n zs aa hs he hd fun j hj=>?_) ?_
 ·have:=H.qW.cell j
  rw [show (⟨b,0,none⟩:Addr).add j=⟨b,0+j,none⟩ from addr_add ..,Nat.zero_add,this]
  simp [hj,List.getD]
 ·rw [List.take_of_length_le aa]
  exact hk
theorem Vm (P:Program) (w:World) (t u ty e:TypeId) (i:TypeInfo) (z:Value) (ht:P.underlying t=some (.slice e)) (hu:P.underlying u=some (.int .i64)) (hi:P.info? e=some i) (hz:i.zero=some z) (n:Nat) (hs:i.size=1) (hb:i.bytes=1)
  (h0:0<n) (h48:n≤281474976710656) :
  (Builtin.append_ #[t,u] ty #[.slice none 0 0,.int .i64 n]).run P w =
   .ok (.slice (some ⟨w.heap.size,0,none⟩) n (grownCap w n 0 e)) (w.drew.alloc (.cells (Builtin.zeroCells z.cells n++Builtin.zeroCells z.cells (grownCap w n 0 e - n)) e)):=by
 have hn:n≠0:=aa
 have hw:IntKind.i64.wrap (n:Int)=n:=wrap_small _ aa aa
 have PJ:¬(9223372036854775807<(n:Int)):=aa
 have PG:¬(281474976710656<Builtin.nextslicecap n 0):=by rw [nextslicecap_zero h0];omega
 have PH:¬(281474976710656<(n:Int)):=aa
 simp [Builtin.append_,run_underlying ht,run_underlying hu,sizeOf,typeInfo,zeroValue,hi,hz,hs,hb,hw,asInt,asIntOf,hn,PJ,PG,PH,Question.forced,run_firstCells_none,newRow,grownCap]
 intro h
 omega
end
section
variable {w0 V0 V w:World} {own:List ak}
theorem Ak {P:Program} {t e ty:TypeId} (ht:P.underlying t=some (.slice e)) {a:Option Addr} {n c:Nat} {k:Value→World→Prop} (hk:k (.int .i64 c) w):aH P (Builtin.cap_ #[t] ty #[.slice a n c]) w k:=by
 refine .of (w':=w) ?_ hk
 simp [Builtin.cap_,run_underlying ht,goInt]
theorem X4 (n:Nat):(Builtin.zeroCells (Value.int .u8 0).cells n).toList=List.replicate n (.int .u8 0):=by
 have h:(Value.int .u8 0).cells=#[.int .u8 0]:=rfl
 rw [h]
 refine List.ext_getElem (by simp [Builtin.zeroCells]) fun i h1 h2=>?_
 simp [Builtin.zeroCells,Nat.mod_one]
theorem PB (w:World) (n e:Nat) (h:n≤1099511627776):grownCap w n 0 e≤maxLen:=grownCap_le_maxLen w n 0 e (by simp only [maxLen];omega)
theorem Rel.MP (H:Rel w0 V0 own V w) {n:Nat} (h0:0<n) (hn:n≤1099511627776) {ty:TypeId} {k:Value→World→Prop}
  (hk:∀s' w',Rel w0 V0 (.row s' 5 1 (List.replicate n (.int .u8 0))::own) V w'→s'.len=n→k s'.v w'):aH Tryz.prog (Builtin.append_ #[22,3] ty #[.slice none 0 0,.int .i64 n]) w k:=by
 obtain ⟨i,hi,kK,pL,hi3⟩:=(ad _ _ (show nh[5]?=some _ from rfl)).info
 have e8:=Vm Tryz.prog w 22 3 ty 5 i (.int .u8 0) Tryz.underlying22 Tryz.underlying3 hi hi3 n kK pL h0 aa
 refine .of e8 ?_
 have xM:Ext w (w.drew.alloc (.cells (Builtin.zeroCells (Value.int .u8 0).cells n++Builtin.zeroCells (Value.int .u8 0).cells (grownCap w n 0 5 - n)) 5)) :=
  ⟨rfl,rfl,rfl,ae,fun c hc=>heap_alloc_old w.drew _ c hc⟩
 refine hk ⟨some ⟨w.heap.size,0,none⟩,n,grownCap w n 0 5⟩ _ (H.more xM ?_ fun b hb=>?_) rfl
 ·have kJ:=grownCap_ge w n 0 5
  refine ⟨ae,.inr ⟨w.heap.size,_,rfl,⟨(0,0),heap_alloc_new w.drew _,.zero _⟩,kJ,PB w n _ hn,?_,?_⟩⟩
  ·simp only [Array.size_append,size_zeroCells]
   have:(Value.int .u8 0).cells.size=1:=rfl
   rw [this]
   omega
  ·rw [Array.toList_append,List.take_append_of_le_length (by rw [Array.length_toList,size_zeroCells];simp [Value.cells]),List.take_of_length_le (by rw [Array.length_toList,size_zeroCells];simp [Value.cells])]
   exact X4 n
 ·simp only [ak.at_,Option.map_some,Option.some.injEq] at hb
  omega
end
section
variable {V W:World}
theorem PA (hV:Sub V W) {n:Nat} (hn:n≤1099511627776):aj Tryz.prog 270 [.slice none 0 0,iv n].toArray W fun v w'=>∃r:Sl,v=r.v∧Rel W V [.row r 5 1 []] V w':=by
 have H:=Rel.start hV
 refine eV Tryz.func270 27 [0,1,4,6,16] ?_
 by_cases h0:n=0
 ·subst h0
  refine wk ?_
  refine Ak Tryz.underlying22 ?_
  refine wk ?_
  exact ⟨⟨none,0,0⟩,rfl,H.bw _ _⟩
 ·refine wk ?_
  refine Ak Tryz.underlying22 ?_
  refine wk ?_
  refine Ak Tryz.underlying22 ?_
  refine wk ?_
  refine Rel.MP H (n:=n) aa hn ?_
  clear H
  intro s' w H hs
  have hc:s'.len≤s'.cap:=by
   have hr:=H.rowAt (i:=0) rfl
   exact hr.cap
  refine wk ?_
  have H2:=H.VQ (i:=0) rfl (k:=0) (Nat.zero_le _)
  exact ⟨_,rfl,H2⟩
abbrev cH (s:Sl):List Value:=[s.v]
abbrev lq (V:World) (x:Sl) (y:List UInt8):Prop:=ao V x y
theorem GS (ll:List (List UInt8)) (k:Nat):((ll.take k).flatten).length≤ll.flatten.length:=by
 conv=>rhs;rw [←List.take_append_drop k ll,List.flatten_append]
 simp
theorem tt (hV:Sub V W) {s:Sl} {hl:List Sl} {ll:List (List UInt8)} (hs:aw cH V s hl) (hp:Pw lq V hl ll) (hll:ll.length≤1000000) (hb:ll.flatten.length≤1099511627000):aj Tryz.prog 207 [s.v].toArray W fun v w'=>∃r:Sl,v=r.v∧Rel W V [.row r 5 1 (ll.flatten.flatMap ay)] V w':=by
 have H:=Rel.start hV
 have hlen:=hs.len
 have hpl:=hp.len
 have hnext:∀k (hk:k<ll.length),(ll.take (k+1)).flatten=(ll.take k).flatten++ll[k]:=fun k hk=>by rw [List.take_succ_eq_append_getElem hk,List.flatten_append];simp only [List.flatten_cons,List.flatten_nil,List.append_nil]
 refine eV Tryz.func207 36 [0,2,3,5,6,8,9,10,11,12,20,25,26,27,28] ?_
 refine wk ?_
 refine aB.cut 0 (fun _:Unit=>[(0,s.v),(3,iv (ll.flatten.length:Nat))]) (fun _ w'=>Rel W V [] V w') ?_ ?_
 ·refine aK (S:=Nat) ad [0,2,6,8,9,10,25,26,27,28] (fun k=>[(3,iv ((ll.take k).flatten.length:Nat)),(11,iv k)]) (fun k w'=>k≤ll.length∧Rel W V [] V w') (fun k _=>ll.length - k) 0 ?_
  conv=>whnf
  refine ⟨sB,⟨aa,H⟩,?_⟩
  clear H
  rintro k w ⟨hk,H⟩
  by_cases hlt:k<ll.length
  rotate_left
  ·rw [List.take_of_length_le aa]
   refine wk ?_
   exact ⟨(),sB,H⟩
  have jw:k<hl.length:=aa
  obtain ⟨q1,q2⟩:=hs.aP (g:=fun x:Sl=>x.v) (fun _=>rfl) jw
  have hx:=hp.all k _ _ (List.getElem?_eq_getElem jw) (List.getElem?_eq_getElem hlt)
  have hxl:=hx.len
  have h1:=GS ll (k+1)
  have h2:=congrArg List.length (hnext k hlt)
  rw [List.length_append] at h2
  refine wk ?_
  refine ⟨sB,k+1,⟨congrArg (fun z=>some (Value.int .i64 z)) aa,rfl,trivial⟩,⟨aa,H⟩,aa⟩
 clear H
 rintro _ w H
 refine wk ?_
 refine (PA H.data (n:=ll.flatten.length) aa).use ?_
 rintro v w ⟨r,rfl,K⟩
 (replace H:=Rel.call H K)
 simp only [List.append_nil] at H
 refine wk ?_
 refine aK (S:=Nat×Sl) ad [0,2,3,5,9,10,11,12,20,25,26] (fun k=>[(6,k.2.v),(27,iv k.1)]) (fun k w'=>k.1≤ll.length∧Rel W V [.row k.2 5 1 ((ll.take k.1).flatten.flatMap ay)] V w') (fun k _=>ll.length - k.1) (0,r) ?_
 conv=>whnf
 refine ⟨sB,⟨aa,H⟩,?_⟩
 clear H
 rintro ⟨k,r⟩ w ⟨hk,H⟩
 dsimp only at hk H
 by_cases hlt:k<ll.length
 rotate_left
 ·rw [List.take_of_length_le aa] at H
  refine wk ?_
  exact ⟨r,rfl,H⟩
 have jw:k<hl.length:=aa
 obtain ⟨q1,q2⟩:=hs.aP (g:=fun x:Sl=>x.v) (fun _=>rfl) jw
 have hx:=hp.all k _ _ (List.getElem?_eq_getElem jw) (List.getElem?_eq_getElem hlt)
 have h1:=GS ll (k+1)
 have h2:=congrArg List.length (hnext k hlt)
 rw [List.length_append] at h2
 refine wk ?_
 refine Rel.gn H (i:=0) rfl hx aa ?_
 clear H
 intro rn w H
 rw [←hnext k hlt] at H
 refine wk ?_
 exact ⟨sB,(k+1,rn),sB,⟨aa,H.sx⟩,aa⟩
end
abbrev lr:=UInt8×Sl
abbrev tq (c:lr):List Value:=[bv c.1,c.2.v]
structure qM (V:World) (h:lr) (c:a8):Prop where
 id:h.1=c.1
 data:ao V h.2 c.2
theorem qM.up (V V':World) (x:lr) (y:a8) (hs:Sub V V') (h:qM V x y):qM V' x y:=⟨h.id,h.data.up hs⟩
section
variable {V W:World}
structure Mc (W V:World) (res:Option (List a8)) (v:Value) (w':World):Prop where
 ex:∃(V':World) (r:Sl),Sub V V'∧Rel W V [] V' w'∧(match res with
  | none=>v=.tuple #[.slice none 0 0,.bool false]
  | some cs=>v=.tuple #[r.v,.bool true]∧RL tq qM V' r cs)
theorem SQ {α:Type} (o:Option (List α)) (O:List α) (x:α):(o.map (x::·)).map (O++·)=o.map ((O++[x])++·):=by
 cases o<;>simp
theorem aw.jk {s:Sl} {l:List UInt8} (h:ao V s l) {i:Nat} (hi:i<l.length):Plain s.a∧V.cell? ⟨aN s.a,aI s.a+i,none⟩=some (.int .u8 (at8 l i:Nat)):=by
 obtain ⟨g1,g2⟩:=h.aP (g:=bv) (fun _=>rfl) hi
 exact ⟨g1,by rw [g2,lx hi]⟩
theorem UA (hV:Sub V W) {s:Sl} {l:List UInt8} (hs:ao V s l) (hl:l.length≤1099511627):aj Tryz.prog 220 [s.v].toArray W (Mc W V (la l)):=by
 have H:=Rel.start hV
 refine eV Tryz.func220 74 [0,2,3,4,5,6,7,16,17,28,58] ?_
 refine wk ?_
 refine H.nA ?_;clear H;intro w bm H
 refine wk ?_
 refine Rel.tv (l:=[83,78,68,49]) Tryz.underlying22 Tryz.underlying5 H rfl ?_
 clear H
 intro V1 w hV1 hm H
 refine wk ?_
 refine (tx H.data (hs.up hV1) hm).use ?_
 rintro v w ⟨⟨r,rfl,hr⟩,K⟩
 (replace H:=H.aq K)
 have BV:([83,78,68,49]:List UInt8).length=4:=rfl
 rw [BV] at hr ⊢
 by_cases hp:l.take 4=[83,78,68,49]
 rotate_left
 ·rw [show la l=none by rw [la,if_neg hp],decide_eq_false hp]
  refine wk ?_
  exact ⟨V1,⟨none,0,0⟩,hV1,H.sx,rfl⟩
 rw [show la l=gJ (l.drop 4) by rw [la,if_pos hp],decide_eq_true hp]
 replace hr:=hr hp
 obtain ⟨L,hL⟩:∃L,L=l.drop 4:=⟨_,rfl⟩
 have Hh:L.length≤1099511627:=by rw [hL];simp;omega
 rw [←hL] at hr ⊢
 replace H:=H.bw 279 2
 refine wk ?_
 refine aK (S:=Sl×List UInt8×Sl×List lr×List a8) ad [0,5,16] (fun k=>[(4,k.1.v),(6,k.2.2.1.v)]) (fun k w'=>ao V1 k.1 k.2.1∧gJ L=(gJ k.2.1).map (k.2.2.2.2++·)∧k.2.1.length+k.2.2.2.2.length≤1099511627∧Pw qM V1 k.2.2.2.1 k.2.2.2.2∧Rel W V [.row k.2.2.1 279 2 (k.2.2.2.1.flatMap tq)] V1 w') (fun k _=>k.2.1.length) (r,L,⟨none,0,0⟩,[],[]) ?_
 conv=>whnf
 refine ⟨sB,⟨hr,ae,by simpa using Hh,Pw.nil,H⟩,?_⟩
 clear H
 rintro ⟨q,X,ro,os,O⟩ w ⟨hq,hch,PY,hpw,H⟩
 dsimp only at hq hch PY hpw H ⊢
 have dI:=hq.len
 have xV:=hq.cap
 have hpl:=hpw.len
 have pF:=Ar X
 have c0:=fun h=>hq.jk (i:=0) h
 have c1:=fun h=>hq.jk (i:=1) h
 have c2:=fun h=>hq.jk (i:=2) h
 have Pc:X.length=1∧at8 X 0=0→gJ L=some O:=fun h=>by rw [hch,pF,if_pos h];simp
 have rA:¬(X.length=1∧at8 X 0=0)→(X.length<3∨at8 X 0<65∨90<at8 X 0)→gJ L=none:=fun h h2=>by rw [hch,pF,if_neg h,if_pos h2];rfl
 by_cases h0:X.length=0
 ·rw [rA aa aa]
  refine wk ?_
  exact ⟨V1,⟨none,0,0⟩,hV1,H.sx,rfl⟩
 obtain ⟨p0,d0⟩:=c0 aa
 have nO:at8 X 0<256:=UInt8.toNat_lt _
 by_cases h1:X.length=1∧at8 X 0=0
 ·obtain ⟨G3,Bl⟩:=h1
  rw [Pc ⟨G3,Bl⟩]
  rw [Bl] at d0
  refine wk ?_
  obtain ⟨V2,hV2,H,hro⟩:=Rel.aJ H (fun _=>rfl) ag
  exact ⟨V2,ro,hV1.trans hV2,H.sx,rfl,os,hro,hpw.up qM.up hV2⟩
 have rA:=rA h1
 by_cases h3:X.length<3
 ·rw [rA aa]
  by_cases cL:X.length=1
  all_goals
   refine wk ?_
   exact ⟨V1,⟨none,0,0⟩,hV1,H.sx,rfl⟩
 by_cases YD:at8 X 0<65
 ·rw [rA aa]
  refine wk ?_
  exact ⟨V1,⟨none,0,0⟩,hV1,H.sx,rfl⟩
 by_cases YE:90<at8 X 0
 ·rw [rA aa]
  refine wk ?_
  exact ⟨V1,⟨none,0,0⟩,hV1,H.sx,rfl⟩
 obtain ⟨_,d1⟩:=c1 aa
 obtain ⟨_,d2⟩:=c2 aa
 have PD:at8 X 1<256:=UInt8.toNat_lt _
 have PF:at8 X 2<256:=UInt8.toNat_lt _
 have fZ:aV .or .i64 ((at8 X 1:Int)*256) (at8 X 2:Int)=((cm X:Nat):Int):=qg PD PF
 have hcl:cm X≤65535:=by unfold cm;omega
 refine wk ?_
 (first|refine dV 9 [] [0,1,2,3,4,5,6,7,8,9,10] H ?_|refine dV 12 [] [0,1,2,3,4,5,6,7,8,9,10,11] H ?_);clear H;intro w H
 refine wk ?_
 rw [k9]
 refine wk ?_
 rw [fZ]
 refine wk ?_
 by_cases hn:X.length - 3<cm X
 ·have:gJ L=none:=by rw [hch,pF,if_neg h1,if_neg aa,if_pos hn];rfl
  rw [this]
  refine wk ?_
  exact ⟨V1,⟨none,0,0⟩,hV1,H.sx,rfl⟩
 have Qk:gJ L=(gJ (X.drop (3+cm X))).map ((O++[(X[0]?.getD 0,(X.drop 3).take (cm X))])++·):=by
  rw [hch,pF,if_neg h1,if_neg aa,if_neg hn,SQ]
 have hs1:=hq.sub (n:=1) (fun _=>rfl) (a:=3) (b:=3+cm X) aa aa
 have bM:=hq.sub (n:=1) (fun _=>rfl) (a:=3+cm X) (b:=q.len) aa aa
 have Qr:(X.take (3+cm X)).drop 3=(X.drop 3).take (cm X):=by rw [List.drop_take,Nat.add_sub_cancel_left]
 rw [Qr] at hs1
 rw [dI,List.take_length] at bM
 refine wk ?_
 (first|refine dV 9 [] [0,1,2,3,4,5,6,7,8,9,10] H ?_|refine dV 12 [] [0,1,2,3,4,5,6,7,8,9,10,11] H ?_);clear H;intro w H
 refine H.wg ?_;clear H;intro _ w H
 refine Rel.dj (f:=tq) (l:=os) (x:=(X[0]?.getD 0,⟨aD q.a 3 q.cap 1,3+cm X - 3,q.cap - 3⟩)) ad rfl rfl rfl rfl rfl ag (fun _=>rfl) (List.all_eq_true.1 rfl) H (by simp;omega) aa ?_
 clear H
 intro rn w H
 refine wk ?_
 refine ⟨sB,(⟨aD q.a (3+cm X) q.cap 1,q.len - (3+cm X),q.cap - (3+cm X)⟩,X.drop (3+cm X),rn,os++[(X[0]?.getD 0,⟨aD q.a 3 q.cap 1,3+cm X - 3,q.cap - 3⟩)],O++[(X[0]?.getD 0,(X.drop 3).take (cm X))]),sB,⟨?_,Qk,by simp;omega,hpw.snoc ⟨rfl,hs1⟩,H.sx⟩,by simp;omega⟩
 rw [←dI] at bM
 exact bM
end
abbrev qb (n:Nat):List Value:=[iv (n:Int)]
abbrev fmtC (rate ch coding:Nat):List Value:=[iv rate,iv ch,iv coding]
section
variable {V W:World}
theorem jc (hV:Sub V W) (rate ch coding:Nat):aj Tryz.prog 223 [.agg (fmtC rate ch coding).toArray].toArray W fun v w'=>v=iv ((coding%2+1:Nat):Int)∧Rel W V [] V w':=by
 have H:=Rel.start hV
 refine eV Tryz.func223 7 [0,1,2] ?_
 refine wk ?_
 refine H.nA ?_;clear H;intro w b1 H
 refine wk ?_
 exact H.sx
theorem Dj (w:Bool) (l:List UInt8):∀r∈dy w l,r<c8 w:=by
 intro r hr
 have hb:∀i,at8 l i<256:=fun i=>UInt8.toNat_lt _
 unfold dy at hr
 unfold c8
 split at hr
 ·rename_i hw
  obtain ⟨k,_,rfl⟩:=List.mem_map.1 hr
  rw [if_pos hw]
  have:=hb (2*k)
  have:=hb (2*k+1)
  omega
 ·rename_i hw
  obtain ⟨k,_,rfl⟩:=List.mem_map.1 hr
  rw [if_neg hw]
  exact hb k
theorem zA {df:Bool} {ch full:Nat} (hf:0<full):∀(n:Nat) (l:List Nat),l.length=n→(∀r∈l,r<full)→∀r∈cg df ch full l,r<full
 | 0,l,hn,_=>by rw [List.eq_nil_of_length_eq_zero hn];simp [Xp]
 | n+1,l,hn,h=>by
  obtain ⟨i,x,rfl⟩:∃i x,l=i++[x]:=by
   rcases List.eq_nil_or_concat l with rfl|⟨i,x,rfl⟩
   ·simp at hn
   ·exact ⟨i,x,ae⟩
  intro r hr
  rw [zC] at hr
  rcases List.mem_append.1 hr with hr|hr
  ·exact zA hf n i (by simpa using hn) (fun y hy=>h y (by simp [hy])) r hr
  ·rw [List.mem_singleton] at hr
   rw [hr]
   split
   ·exact Nat.mod_lt _ hf
   ·exact h x ae
theorem Lq {df:Bool} {ch full:Nat} {l:List Nat} (h:∀r∈l,r<full) (hf:0<full) (i:Nat):(cg df ch full l)[i]?.getD 0<full:=by
 by_cases hi:i<(cg df ch full l).length
 ·rw [List.getElem?_eq_getElem hi]
  exact zA hf _ l rfl h _ (List.getElem_mem hi)
 ·rw [List.getElem?_eq_none aa]
  exact hf
theorem Oy (hV:Sub V W) {rate ch coding:Nat} (hc:coding<4) (hch:1≤ch∧ch≤2) {s:Sl} {l:List UInt8} (hs:ao V s l) (hl:l.length≤1000000) (hev:bd coding=true→l.length%2=0) :
  aj Tryz.prog 224 [.agg (fmtC rate ch coding).toArray,s.v].toArray W fun v w'=>∃r:Sl,v=r.v∧Rel W V [.row r 3 1 ((fA l coding ch).flatMap ct)] V w':=by
 have H:=Rel.start hV
 have hlen:=hs.len
 refine eV Tryz.func224 77 [0,1,2,4,5,6,7,8,9,10,14,26,48,61,67] ?_
 refine wk ?_
 refine H.nA ?_;clear H;intro w b2 H
 replace H:=H.bw 3 1
 replace H:=H.bw 3 1
 refine wk ?_
 refine aK (S:=Nat×Sl×Sl) ad [0,1,2,4] (fun k=>[(5,k.2.1.v),(6,k.2.2.v),(7,iv ((k.1*(coding%2+1):Nat):Int))]) (fun k w'=>k.1≤(dy (bd coding) l).length∧Rel W V [.row k.2.2 3 1 (((cg (gQ coding) ch (c8 (bd coding)) ((dy (bd coding) l).take k.1)).map (dS (bd coding))).flatMap ct),.row k.2.1 3 1 (((cg (gQ coding) ch (c8 (bd coding)) ((dy (bd coding) l).take k.1))).flatMap qb),.al b2 (fmtC rate ch coding) 171] V w') (fun k _=>(dy (bd coding) l).length - k.1) (0,⟨none,0,0⟩,⟨none,0,0⟩) ?_
 conv=>whnf
 refine ⟨⟨rfl,rfl,?_,trivial⟩,⟨aa,H⟩,?_⟩
 ·simp
  rfl
 clear H
 rintro ⟨k,r5,r6⟩ w ⟨hk,H⟩
 dsimp only at hk H ⊢
 have hrl:=qk (bd coding) l
 have Bs:(cg (gQ coding) ch (c8 (bd coding)) ((dy (bd coding) l).take k)).length=k:=by rw [sL,List.length_take];omega
 have py:∀i:Nat,(cg (gQ coding) ch (c8 (bd coding)) ((dy (bd coding) l).take k))[i]?.getD 0<c8 (bd coding):=fun i=>Lq (fun r hr=>Dj _ _ r (List.mem_of_mem_take hr)) (by unfold c8;split<;>omega) i
 by_cases hlt:k<(dy (bd coding) l).length
 rotate_left
 ·rw [List.take_of_length_le aa] at H
  have YX:¬((k*(coding%2+1):Nat):Int)<(s.len:Int):=by
   obtain rfl|rfl|rfl|rfl:coding=0∨coding=1∨coding=2∨coding=3:=aa
   ·have:=hrl.trans (if_neg (by decide:¬bd 0=true))
    simp only [Nat.reduceMod]
    omega
   ·have:=hrl.trans (if_pos (by decide:bd 1=true))
    have:=hev ag
    simp only [Nat.reduceMod]
    omega
   ·have:=hrl.trans (if_neg (by decide:¬bd 2=true))
    simp only [Nat.reduceMod]
    omega
   ·have:=hrl.trans (if_pos (by decide:bd 3=true))
    have:=hev ag
    simp only [Nat.reduceMod]
    omega
  refine wk ?_
  exact ⟨r6,rfl,H.sx⟩
 have cA:=fun r h=>Lr (df:=gQ coding) (ch:=ch) (full:=c8 (bd coding)) (l:=dy (bd coding) l) (k:=k) (r:=r) h
 obtain ⟨U,hU⟩:∃U,U=cg (gQ coding) ch (c8 (bd coding)) ((dy (bd coding) l).take k):=⟨_,rfl⟩
 rw [←hU] at Bs H
 simp only [←hU] at cA py
 have YY:=(H.dO (i:=1) rfl (fun _=>rfl) ag).len
 have QS:=(H.dO (i:=0) rfl (fun _=>rfl) ag).len
 rw [List.length_map] at QS
 have f256:c8 false=256:=rfl
 have f65:c8 true=65536:=rfl
 obtain rfl|rfl|rfl|rfl:coding=0∨coding=1∨coding=2∨coding=3:=aa
 ·have hw:bd 0=false:=rfl
  have hd:gQ 0=false:=rfl
  simp only [hw,hd] at hrl cA py H hk hlt ⊢
  rw [if_neg ae] at hrl
  have cA:=cA _ (yU aa)
  rw [if_neg ae] at cA
  obtain ⟨p0,d0⟩:=hs.jk (i:=k) aa
  have hand:aV .and .i64 0 2=0:=by decide +kernel
  have nO:at8 l k<256:=UInt8.toNat_lt _
  have hv:dS false (at8 l k)=((at8 l k:Int) - 128)*256:=rfl
  simp only [Nat.zero_mod,Nat.zero_add,Nat.mul_one]
  refine wk ?_
  refine (jc H.data rate ch 0).use ?_
  rintro q w ⟨rfl,K⟩
  (replace H:=H.aq K)
  refine H.wg ?_;clear H;intro _ w H
  refine Rel.cy (f:=qb) (l:=U) (x:=at8 l k) ad rfl rfl rfl rfl rfl ag (fun _=>rfl) (List.all_eq_true.1 rfl) H (by simp;omega) aa ?_
  clear H
  intro iX w H
  refine H.wg ?_;clear H;intro _ w H
  refine Rel.dj (f:=ct) (l:=U.map (dS false)) (x:=((at8 l k:Int) - 128)*256) ad rfl rfl rfl rfl rfl ag (fun _=>rfl) (List.all_eq_true.1 rfl) H (by simp only [List.length_map];omega) (by simp only [List.length_map];omega) ?_
  clear H
  intro gC w H
  refine wk ?_
  refine (jc H.data rate ch 0).use ?_
  rintro q w ⟨rfl,K⟩
  (replace H:=H.aq K)
  refine wk ?_
  refine ⟨sB,(k+1,iX,gC),⟨rfl,rfl,congrArg (fun z=>some (Value.int .i64 z)) (by simp only [Nat.reduceMod,Nat.reduceAdd];omega),trivial⟩,⟨by dsimp only;omega,?_⟩,by dsimp only;omega⟩
  dsimp only
  have cJ:=cA
  try simp only [f256,f65] at cJ
  try simp only [f256,f65]
  rw [cJ,List.map_append,List.map_cons,List.map_nil,hv]
  exact H.sx
 ·have hw:bd 1=true:=rfl
  have hd:gQ 1=false:=rfl
  simp only [hw,hd] at hrl cA py H hk hlt ⊢
  rw [if_pos ae] at hrl
  have hl2:=hev rfl
  obtain ⟨u,kS⟩:∃u,u=256*at8 l (k*2+1)+at8 l (k*2):=⟨_,rfl⟩
  have cA:=cA u (by rw [yV aa,Nat.mul_comm 2 k,kS,Nat.add_comm])
  obtain ⟨p0,d0⟩:=hs.jk (i:=k*2) aa
  obtain ⟨p1,d1⟩:=hs.jk (i:=k*2+1) aa
  have hand:aV .and .i64 1 2=(if 1=3 then 2 else 0):=by decide +kernel
  have nO:at8 l (k*2)<256:=UInt8.toNat_lt _
  have tK:at8 l (k*2+1)<256:=UInt8.toNat_lt _
  have xX:u<65536:=aa
  simp only [Nat.reduceMod,Nat.reduceAdd]
  rw [if_neg ae] at cA
  refine wk ?_
  refine (jc H.data rate ch 1).use ?_
  rintro q w ⟨rfl,K⟩
  (replace H:=H.aq K)
  refine wk ?_
  rw [show (((k*2:Nat):Int)+1)=((k*2+1:Nat):Int) by omega]
  refine wk ?_
  rw [k9]
  refine H.wg ?_;clear H;intro _ w H
  rw [yE tK nO,←kS]
  try rw [yE tK nO,←kS] at H
  refine wk ?_
  refine wk ?_
  refine Rel.cy (f:=qb) (l:=U) (x:=u) ad rfl rfl rfl rfl rfl ag (fun _=>rfl) (List.all_eq_true.1 rfl) H (by simp;omega) aa ?_
  clear H
  intro iX w H
  refine wk ?_
  by_cases h32:32768≤u
  ·have hv:dS true u=(u:Int) - 65536:=if_pos h32
   refine H.wg ?_;clear H;intro _ w H
   refine Rel.dj (f:=ct) (l:=U.map (dS true)) (x:=(u:Int) - 65536) ad rfl rfl rfl rfl rfl ag (fun _=>rfl) (List.all_eq_true.1 rfl) H (by simp only [List.length_map];omega) (by simp only [List.length_map];omega) ?_
   clear H
   intro gC w H
   refine wk ?_
   refine (jc H.data rate ch 1).use ?_
   rintro q w ⟨rfl,K⟩
   (replace H:=H.aq K)
   refine wk ?_
   refine ⟨sB,(k+1,iX,gC),⟨rfl,rfl,congrArg (fun z=>some (Value.int .i64 z)) (by simp only [Nat.reduceMod,Nat.reduceAdd];omega),trivial⟩,⟨by dsimp only;omega,?_⟩,by dsimp only;omega⟩
   dsimp only
   have cJ:=cA
   try simp only [f256,f65] at cJ
   try simp only [f256,f65]
   rw [cJ,List.map_append,List.map_cons,List.map_nil,hv]
   exact H.sx
  ·have hv:dS true u=(u:Int):=if_neg h32
   refine H.wg ?_;clear H;intro _ w H
   refine Rel.dj (f:=ct) (l:=U.map (dS true)) (x:=(u:Int)) ad rfl rfl rfl rfl rfl ag (fun _=>rfl) (List.all_eq_true.1 rfl) H (by simp only [List.length_map];omega) (by simp only [List.length_map];omega) ?_
   clear H
   intro gC w H
   refine wk ?_
   refine (jc H.data rate ch 1).use ?_
   rintro q w ⟨rfl,K⟩
   (replace H:=H.aq K)
   refine wk ?_
   refine ⟨sB,(k+1,iX,gC),⟨rfl,rfl,congrArg (fun z=>some (Value.int .i64 z)) (by simp only [Nat.reduceMod,Nat.reduceAdd];omega),trivial⟩,⟨by dsimp only;omega,?_⟩,by dsimp only;omega⟩
   dsimp only
   have cJ:=cA
   try simp only [f256,f65] at cJ
   try simp only [f256,f65]
   rw [cJ,List.map_append,List.map_cons,List.map_nil,hv]
   exact H.sx
 ·have hw:bd 2=false:=rfl
  have hd:gQ 2=true:=rfl
  simp only [hw,hd] at hrl cA py H hk hlt ⊢
  rw [if_neg ae] at hrl
  have cA:=cA _ (yU aa)
  rw [f256] at cA
  obtain ⟨p0,d0⟩:=hs.jk (i:=k) aa
  have hand:aV .and .i64 2 2=2:=by decide +kernel
  have nO:at8 l k<256:=UInt8.toNat_lt _
  simp only [Nat.reduceMod,Nat.zero_add,Nat.mul_one]
  refine wk ?_
  refine (jc H.data rate ch 2).use ?_
  rintro q w ⟨rfl,K⟩
  (replace H:=H.aq K)
  refine wk ?_
  by_cases hdf:ch≤k
  ·rw [if_pos (by simp [hdf])] at cA
   have S5:=H.dO (i:=1) rfl (fun _=>rfl) ag
   obtain ⟨q0,e0⟩:=S5.aP (g:=fun n:Nat=>iv (n:Int)) (fun _=>rfl) (i:=k - ch) aa
   have ej:((r5.len:Int) - (ch:Int))=((k - ch:Nat):Int):=aa
   obtain ⟨u,hu⟩:∃u,u=(at8 l k+U[k - ch]?.getD 0)%256:=⟨_,rfl⟩
   have ub:=py (k - ch)
   simp only [f256,f65] at ub
   rw [←hu] at cA
   have uI:U[k - ch]?.getD 0=U[k - ch]:=by rw [List.getElem?_eq_getElem aa];rfl
   rw [uI] at ub hu
   refine wk ?_
   have ez:(((at8 l k:Nat):Int)+((U[k - ch]:Nat):Int))%256=((u:Nat):Int):=aa
   rw [ej]
   refine H.wg ?_;clear H;intro _ w H
   try rw [ez] at H
   rw [ez]
   have xX:u<256:=aa
   have hv:dS false u=((u:Int) - 128)*256:=rfl
   refine wk ?_
   refine Rel.cy (f:=qb) (l:=U) (x:=u) ad rfl rfl rfl rfl rfl ag (fun _=>rfl) (List.all_eq_true.1 rfl) H (by simp;omega) aa ?_
   clear H
   intro iX w H
   refine H.wg ?_;clear H;intro _ w H
   refine Rel.dj (f:=ct) (l:=U.map (dS false)) (x:=((u:Int) - 128)*256) ad rfl rfl rfl rfl rfl ag (fun _=>rfl) (List.all_eq_true.1 rfl) H (by simp only [List.length_map];omega) (by simp only [List.length_map];omega) ?_
   clear H
   intro gC w H
   refine wk ?_
   refine (jc H.data rate ch 2).use ?_
   rintro q w ⟨rfl,K⟩
   (replace H:=H.aq K)
   refine wk ?_
   refine ⟨sB,(k+1,iX,gC),⟨rfl,rfl,congrArg (fun z=>some (Value.int .i64 z)) (by simp only [Nat.reduceMod,Nat.reduceAdd];omega),trivial⟩,⟨by dsimp only;omega,?_⟩,by dsimp only;omega⟩
   dsimp only
   have cJ:=cA
   try simp only [f256,f65] at cJ
   try simp only [f256,f65]
   rw [cJ,List.map_append,List.map_cons,List.map_nil,hv]
   exact H.sx
  ·rw [if_neg (fun h=>hdf h.2)] at cA
   have hv:dS false (at8 l k)=((at8 l k:Int) - 128)*256:=rfl
   refine H.wg ?_;clear H;intro _ w H
   refine wk ?_
   refine Rel.cy (f:=qb) (l:=U) (x:=at8 l k) ad rfl rfl rfl rfl rfl ag (fun _=>rfl) (List.all_eq_true.1 rfl) H (by simp;omega) aa ?_
   clear H
   intro iX w H
   refine H.wg ?_;clear H;intro _ w H
   refine Rel.dj (f:=ct) (l:=U.map (dS false)) (x:=((at8 l k:Int) - 128)*256) ad rfl rfl rfl rfl rfl ag (fun _=>rfl) (List.all_eq_true.1 rfl) H (by simp only [List.length_map];omega) (by simp only [List.length_map];omega) ?_
   clear H
   intro gC w H
   refine wk ?_
   refine (jc H.data rate ch 2).use ?_
   rintro q w ⟨rfl,K⟩
   (replace H:=H.aq K)
   refine wk ?_
   refine ⟨sB,(k+1,iX,gC),⟨rfl,rfl,congrArg (fun z=>some (Value.int .i64 z)) (by simp only [Nat.reduceMod,Nat.reduceAdd];omega),trivial⟩,⟨by dsimp only;omega,?_⟩,by dsimp only;omega⟩
   dsimp only
   have cJ:=cA
   try simp only [f256,f65] at cJ
   try simp only [f256,f65]
   rw [cJ,List.map_append,List.map_cons,List.map_nil,hv]
   exact H.sx
 ·have hw:bd 3=true:=rfl
  have hd:gQ 3=true:=rfl
  simp only [hw,hd] at hrl cA py H hk hlt ⊢
  rw [if_pos ae] at hrl
  have hl2:=hev rfl
  obtain ⟨u,kS⟩:∃u,u=256*at8 l (k*2+1)+at8 l (k*2):=⟨_,rfl⟩
  have cA:=cA u (by rw [yV aa,Nat.mul_comm 2 k,kS,Nat.add_comm])
  obtain ⟨p0,d0⟩:=hs.jk (i:=k*2) aa
  obtain ⟨p1,d1⟩:=hs.jk (i:=k*2+1) aa
  have hand:aV .and .i64 3 2=(if 3=3 then 2 else 0):=by decide +kernel
  have nO:at8 l (k*2)<256:=UInt8.toNat_lt _
  have tK:at8 l (k*2+1)<256:=UInt8.toNat_lt _
  have xX:u<65536:=aa
  simp only [Nat.reduceMod,Nat.reduceAdd]
  rw [f65] at cA
  refine wk ?_
  refine (jc H.data rate ch 3).use ?_
  rintro q w ⟨rfl,K⟩
  (replace H:=H.aq K)
  refine wk ?_
  rw [show (((k*2:Nat):Int)+1)=((k*2+1:Nat):Int) by omega]
  refine wk ?_
  rw [k9]
  refine wk ?_
  rw [yE tK nO,←kS]
  try rw [yE tK nO,←kS] at H
  refine wk ?_
  by_cases hdf:ch≤k
  ·rw [if_pos (by simp [hdf])] at cA
   obtain ⟨y,hy⟩:∃y,y=u:=⟨_,rfl⟩
   rw [←hy] at xX cA ⊢
   clear hy kS u
   have S5:=H.dO (i:=1) rfl (fun _=>rfl) ag
   obtain ⟨q0,e0⟩:=S5.aP (g:=fun n:Nat=>iv (n:Int)) (fun _=>rfl) (i:=k - ch) aa
   have ej:((r5.len:Int) - (ch:Int))=((k - ch:Nat):Int):=aa
   obtain ⟨u,hu⟩:∃u,u=(y+U[k - ch]?.getD 0)%65536:=⟨_,rfl⟩
   have ub:=py (k - ch)
   simp only [f256,f65] at ub
   rw [←hu] at cA
   have uI:U[k - ch]?.getD 0=U[k - ch]:=by rw [List.getElem?_eq_getElem aa];rfl
   rw [uI] at ub hu
   refine wk ?_
   have ez:(((y:Nat):Int)+((U[k - ch]:Nat):Int))%65536=((u:Nat):Int):=aa
   rw [ej]
   refine H.wg ?_;clear H;intro _ w H
   try rw [ez] at H
   rw [ez]
   have xX:u<65536:=aa
   refine wk ?_
   refine Rel.cy (f:=qb) (l:=U) (x:=u) ad rfl rfl rfl rfl rfl ag (fun _=>rfl) (List.all_eq_true.1 rfl) H (by simp;omega) aa ?_
   clear H
   intro iX w H
   refine wk ?_
   by_cases h32:32768≤u
   ·have hv:dS true u=(u:Int) - 65536:=if_pos h32
    refine H.wg ?_;clear H;intro _ w H
    refine Rel.dj (f:=ct) (l:=U.map (dS true)) (x:=(u:Int) - 65536) ad rfl rfl rfl rfl rfl ag (fun _=>rfl) (List.all_eq_true.1 rfl) H (by simp only [List.length_map];omega) (by simp only [List.length_map];omega) ?_
    clear H
    intro gC w H
    refine wk ?_
    refine (jc H.data rate ch 3).use ?_
    rintro q w ⟨rfl,K⟩
    (replace H:=H.aq K)
    refine wk ?_
    refine ⟨sB,(k+1,iX,gC),⟨rfl,rfl,congrArg (fun z=>some (Value.int .i64 z)) (by simp only [Nat.reduceMod,Nat.reduceAdd];omega),trivial⟩,⟨by dsimp only;omega,?_⟩,by dsimp only;omega⟩
    dsimp only
    have cJ:=cA
    try simp only [f256,f65] at cJ
    try simp only [f256,f65]
    rw [cJ,List.map_append,List.map_cons,List.map_nil,hv]
    exact H.sx
   ·have hv:dS true u=(u:Int):=if_neg h32
    refine H.wg ?_;clear H;intro _ w H
    refine Rel.dj (f:=ct) (l:=U.map (dS true)) (x:=(u:Int)) ad rfl rfl rfl rfl rfl ag (fun _=>rfl) (List.all_eq_true.1 rfl) H (by simp only [List.length_map];omega) (by simp only [List.length_map];omega) ?_
    clear H
    intro gC w H
    refine wk ?_
    refine (jc H.data rate ch 3).use ?_
    rintro q w ⟨rfl,K⟩
    (replace H:=H.aq K)
    refine wk ?_
    refine ⟨sB,(k+1,iX,gC),⟨rfl,rfl,congrArg (fun z=>some (Value.int .i64 z)) (by simp only [Nat.reduceMod,Nat.reduceAdd];omega),trivial⟩,⟨by dsimp only;omega,?_⟩,by dsimp only;omega⟩
    dsimp only
    have cJ:=cA
    try simp only [f256,f65] at cJ
    try simp only [f256,f65]
    rw [cJ,List.map_append,List.map_cons,List.map_nil,hv]
    exact H.sx
  ·rw [if_neg (fun h=>hdf h.2)] at cA
   refine H.wg ?_;clear H;intro _ w H
   refine wk ?_
   refine Rel.cy (f:=qb) (l:=U) (x:=u) ad rfl rfl rfl rfl rfl ag (fun _=>rfl) (List.all_eq_true.1 rfl) H (by simp;omega) aa ?_
   clear H
   intro iX w H
   refine wk ?_
   by_cases h32:32768≤u
   ·have hv:dS true u=(u:Int) - 65536:=if_pos h32
    refine H.wg ?_;clear H;intro _ w H
    refine Rel.dj (f:=ct) (l:=U.map (dS true)) (x:=(u:Int) - 65536) ad rfl rfl rfl rfl rfl ag (fun _=>rfl) (List.all_eq_true.1 rfl) H (by simp only [List.length_map];omega) (by simp only [List.length_map];omega) ?_
    clear H
    intro gC w H
    refine wk ?_
    refine (jc H.data rate ch 3).use ?_
    rintro q w ⟨rfl,K⟩
    (replace H:=H.aq K)
    refine wk ?_
    refine ⟨sB,(k+1,iX,gC),⟨rfl,rfl,congrArg (fun z=>some (Value.int .i64 z)) (by simp only [Nat.reduceMod,Nat.reduceAdd];omega),trivial⟩,⟨by dsimp only;omega,?_⟩,by dsimp only;omega⟩
    dsimp only
    have cJ:=cA
    try simp only [f256,f65] at cJ
    try simp only [f256,f65]
    rw [cJ,List.map_append,List.map_cons,List.map_nil,hv]
    exact H.sx
   ·have hv:dS true u=(u:Int):=if_neg h32
    refine H.wg ?_;clear H;intro _ w H
    refine Rel.dj (f:=ct) (l:=U.map (dS true)) (x:=(u:Int)) ad rfl rfl rfl rfl rfl ag (fun _=>rfl) (List.all_eq_true.1 rfl) H (by simp only [List.length_map];omega) (by simp only [List.length_map];omega) ?_
    clear H
    intro gC w H
    refine wk ?_
    refine (jc H.data rate ch 3).use ?_
    rintro q w ⟨rfl,K⟩
    (replace H:=H.aq K)
    refine wk ?_
    refine ⟨sB,(k+1,iX,gC),⟨rfl,rfl,congrArg (fun z=>some (Value.int .i64 z)) (by simp only [Nat.reduceMod,Nat.reduceAdd];omega),trivial⟩,⟨by dsimp only;omega,?_⟩,by dsimp only;omega⟩
    dsimp only
    have cJ:=cA
    try simp only [f256,f65] at cJ
    try simp only [f256,f65]
    rw [cJ,List.map_append,List.map_cons,List.map_nil,hv]
    exact H.sx
end
theorem y8 {v:Value}:∀ {c:List Value} {o:Nat} {k:List Value→Prop},o<c.length→k (c.set o v)→cW c o [v] k
 | [],o,k,h,_=>by simp at h
 | u::c,0,k,_,hk=>by
  show cW c 0 [] fun r=>k (v::r)
  cases c<;>exact hk
 | u::c,o+1,k,h,hk=>by
  show cW c o [v] fun r=>k (u::r)
  exact y8 (by simpa using h) hk
section
variable {V W:World}
theorem Rel.KN {w0 V0 V w:World} {own:List ak} (H:Rel w0 V0 own V w) {i:Nat} {s:Sl} {e:TypeId} {xs:List Value} (hi:own[i]?=some (.row s e 1 xs)) (j:Nat) (hj:j<s.len) {b o:Nat} (hb:b=aN s.a) (ho:o=aI s.a+j) {v:Value} {k:World→Prop}
  (hk:∀w',Rel w0 V0 (own.set i (.row s e 1 (xs.set j v))) V w'→k w'):∃c t',jd w b c t'∧cW c o [v] fun c'=>∀w',hC w b c' t' w'→k w':=by
 have hr:=H.rowAt hi
 rcases hr.at_ with ⟨_,h2,_⟩|⟨b0,cur,h1,h2,h3,h4,h5,h6⟩
 ·omega
 ·rw [h1] at hb ho
  simp only [aN,aI,Nat.zero_add] at hb ho
  subst hb ho
  have hbl:jd w b cur.toList e:=h2
  refine ⟨cur.toList,e,hbl,y8 (by rw [Array.length_toList,h5];omega) fun w' hu=>hk w' ?_⟩
  have hu':=hu
  obtain ⟨fz,cs,oa,rfl⟩:=hu.wd
  refine H.put hi rfl rfl rfl ae (fun k _ hk=>hu'.other fun e=>hk (by rw [e];simp [ak.at_,h1])) ⟨by rw [List.length_set,hr.len],.inr ⟨b,(cur.toList.set o v).toArray,h1,hu'.row hbl ae,h3,h4,by simp [h5],?_⟩⟩ fun k hk=>.inl hk
  rw [←h6]
  simp [List.take_set]
end
theorem Xt (w:Bool) (v:Int):iA w v<c8 w:=by
 unfold iA c8
 split<;>omega
theorem Xy (w:Bool) (l:List Int) (i:Nat):(l.map (iA w))[i]?.getD 0<c8 w:=by
 rw [List.getElem?_map]
 cases l[i]? with
 | none=>show 0<c8 w;unfold c8;split<;>omega
 | some x=>exact Xt w x
theorem WQ {df:Bool} {ch full:Nat} {l:List Nat} (hf:0<full) (h:∀i:Nat,l[i]?.getD 0<full) (i:Nat):l6 df ch full l i<full:=by
 unfold l6
 split
 ·exact Nat.mod_lt _ hf
 ·exact h i
section
variable {V W:World}
theorem Wn (hV:Sub V W) {x y:Sl} {a b:List (List UInt8)} (hx:we V x a) (hy:we V y b) (ha:a.length≤1099511627776):aj Tryz.prog 74 [x.v,y.v].toArray W fun v w'=>v=.bool (decide (a=b))∧Rel W V [] V w':=by
 have H:=Rel.start hV
 have h1:=hx.len
 have h2:=hy.len
 refine eV Tryz.func74 26 [0,1,4,5,10,14,25] ?_
 by_cases hl:a.length=b.length
 rotate_left
 ·refine wk ?_
  refine ⟨?_,H⟩
  have:a≠b:=fun e=>hl (by rw [e])
  simp [this]
 refine wk ?_
 refine aK (S:=Nat) ad [0,1,10] (fun k=>[(5,iv k)]) (fun k w'=>k≤a.length∧(∀j,j<k→a[j]?=b[j]?)∧Rel W V [] V w') (fun k _=>a.length - k) 0 ?_
 conv=>whnf
 refine ⟨sB,⟨aa,aa,H⟩,?_⟩
 clear H
 rintro k w ⟨hk,hj,H⟩
 by_cases pQ:k<a.length
 ·have um:k<b.length:=aa
  obtain ⟨hp,hc⟩:=hx.nL (g:=str) (fun _=>rfl) pQ
  obtain ⟨xU,hc'⟩:=hy.nL (g:=str) (fun _=>rfl) um
  refine wk ?_
  refine dV 6 [] [0,1,2,3,4,5,6,7,8] H ?_;clear H;intro w H
  refine wk ?_
  refine tu (fun h5=>?_) (fun h5=>?_)
  ·refine wk ?_
   refine ⟨?_,H⟩
   have:a≠b:=by
    intro e;subst e
    exact h5 rfl
   simp [this]
  ·refine wk ?_
   refine ⟨sB,k+1,sB,⟨aa,?_,H⟩,aa⟩
   intro j iG
   by_cases e:j=k
   ·subst e
    simp only [pQ,um,List.getElem?_eq_getElem]
    exact congrArg some h5
   ·exact hj j aa
 ·refine wk ?_
  refine ⟨?_,H⟩
  have:a=b:=List.ext_getElem? fun j=>by
   by_cases eM:j<k
   ·exact hj j eM
   ·rw [List.getElem?_eq_none aa,List.getElem?_eq_none aa]
  simp [this]
end
theorem KY {α:Type} {l:List α} {k:Nat} {x:α} (hk:k<l.length) (h1:x∉l.take k) (h2:x≠l[k]):x∉l.take (k+1):=by
 rw [List.take_succ_eq_append_getElem hk,List.mem_append]
 rintro (h|h)
 ·exact h1 h
 ·exact h2 (List.mem_singleton.1 h)
theorem Ac {α:Type} {p:α→Bool} {l:List α} {k:Nat} (hk:k<l.length):(l.take (k+1)).any p=((l.take k).any p||p l[k]):=by
 rw [List.take_succ_eq_append_getElem hk,List.any_append]
 simp
section
variable {V W:World}
theorem N0 (hV:Sub V W) {s:Sl} {l:List (List UInt8)} (hs:we V s l) (hl:l.length≤1099511627776) (x:List UInt8):aj Tryz.prog 328 [s.v,str x].toArray W fun v w'=>v=.bool (decide (x∈l))∧Rel W V [] V w':=by
 have key:aj Tryz.prog 353 [s.v,str x].toArray W fun v w'=>(∃i:Int,v=iv i∧(0≤i↔x∈l))∧Rel W V [] V w':=by
  have H:=Rel.start hV
  have hlen:=hs.len
  refine eV Tryz.func353 19 [0,1,4,5,7,8,9,16] ?_
  refine wk ?_
  refine aK (S:=Nat) ad [0,1,7] (fun k=>[(8,iv k)]) (fun k w'=>k≤l.length∧x∉l.take k∧Rel W V [] V w') (fun k _=>l.length - k) 0 ?_
  conv=>whnf
  refine ⟨sB,⟨aa,ae,H⟩,?_⟩
  clear H
  rintro k w ⟨hk,hz,H⟩
  by_cases hlt:k<l.length
  ·obtain ⟨hp,hc⟩:=hs.nL (g:=str) (fun _=>rfl) hlt
   refine wk ?_
   refine dw (fun h=>?_) (fun h=>?_)
   ·refine wk ?_
    exact ⟨⟨k,rfl,fun _=>by rw [h];exact List.getElem_mem hlt,fun _=>by omega⟩,H.sx⟩
   ·refine wk ?_
    exact ⟨sB,k+1,sB,⟨aa,KY hlt hz h,H⟩,aa⟩
  ·refine wk ?_
   refine ⟨⟨-1,rfl,fun h=>by omega,fun h=>?_⟩,H.sx⟩
   rw [List.take_of_length_le aa] at hz
   exact absurd h hz
 refine eV Tryz.func328 9 [0,1,4] ?_
 conv=>whnf
 refine key.use ?_
 rintro v w ⟨⟨i,rfl,hi⟩,H⟩
 conv=>whnf
 exact ⟨by simp only [hi],H⟩
theorem NX (hV:Sub V W) {s:Sl} {l:List (List UInt8)} (hs:we V s l) (hl:l.length≤1099511627776) {g:FuncId} {caps:List Value} (p:List UInt8→Bool)
  (hg:∀(x:List UInt8) (w:World),Sub V w→aj Tryz.prog g (str x::caps).toArray w fun v w'=>v=.bool (p x)∧Rel w V [] V w') :
  aj Tryz.prog 326 [s.v,.func (.func g) #[] caps.toArray].toArray W fun v w'=>v=.bool (l.any p)∧Rel W V [] V w':=by
 have key:aj Tryz.prog 352 [s.v,.func (.func g) #[] caps.toArray].toArray W fun v w'=>(∃i:Int,v=iv i∧(0≤i↔l.any p=true))∧Rel W V [] V w':=by
  have H:=Rel.start hV
  have hlen:=hs.len
  refine eV Tryz.func352 19 [0,1,4,5,7,8,9,16] ?_
  refine wk ?_
  refine aK (S:=Nat) ad [0,1,7] (fun k=>[(8,iv k)]) (fun k w'=>k≤l.length∧(l.take k).any p=false∧Rel W V [] V w') (fun k _=>l.length - k) 0 ?_
  conv=>whnf
  refine ⟨sB,⟨aa,ae,H⟩,?_⟩
  clear H
  rintro k w ⟨hk,hz,H⟩
  by_cases hlt:k<l.length
  ·obtain ⟨hp,hc⟩:=hs.nL (g:=str) (fun _=>rfl) hlt
   refine wk ?_
   refine (hg l[k] _ H.data).use ?_
   rintro v w ⟨rfl,K⟩
   replace H:=H.call K
   conv=>whnf
   refine q7 (fun h1=>?_) (fun h1=>?_)
   ·refine wk ?_
    refine ⟨⟨k,rfl,fun _=>?_,fun _=>by omega⟩,H⟩
    rw [List.any_eq_true]
    exact ⟨l[k],List.getElem_mem hlt,h1⟩
   ·refine wk ?_
    exact ⟨sB,k+1,sB,⟨aa,by rw [Ac hlt,hz,h1];rfl,H⟩,aa⟩
  ·refine wk ?_
   refine ⟨⟨-1,rfl,fun h=>by omega,fun h=>?_⟩,H⟩
   rw [List.take_of_length_le aa] at hz
   rw [hz] at h
   cases h
 refine eV Tryz.func326 9 [0,1,4] ?_
 conv=>whnf
 refine key.use ?_
 rintro v w ⟨⟨i,rfl,hi⟩,H⟩
 conv=>whnf
 refine ⟨?_,H⟩
 simp only [hi]
 cases l.any p<;>rfl
end
end Go.Proofs.YtmoiobegbpkkbaaGreatDoor
