import Derived.Test.YtmoiobegbpkkbaaGreatDoorKAE
namespace Go.Proofs.YtmoiobegbpkkbaaGreatDoor
open Go Go.RowKit
set_option maxRecDepth 100000
set_option maxHeartbeats 8000000
section
variable {V W:World}
theorem NZ (hV:Sub V W) {s:Sl} {l:List Int} (hs:aw ct V s l) (hl:l.length≤1099511627776) (x:Int):aj Tryz.prog 239 [s.v,iv x].toArray W fun v w'=>v=.bool (decide (x∈l))∧Rel W V [] V w':=by
 have key:aj Tryz.prog 283 [s.v,iv x].toArray W fun v w'=>(∃i:Int,v=iv i∧(0≤i↔x∈l))∧Rel W V [] V w':=by
  have H:=Rel.start hV
  have hlen:=hs.len
  refine eV Tryz.func283 19 [0,1,4,5,7,8,9,16] ?_
  refine wk ?_
  refine aK (S:=Nat) ad [0,1,7] (fun k=>[(8,iv k)]) (fun k w'=>k≤l.length∧x∉l.take k∧Rel W V [] V w') (fun k _=>l.length - k) 0 ?_
  conv=>whnf
  refine ⟨sB,⟨aa,ae,H⟩,?_⟩
  clear H
  rintro k w ⟨hk,hz,H⟩
  by_cases hlt:k<l.length
  ·obtain ⟨hp,hc⟩:=hs.nL (g:=iv) (fun _=>rfl) hlt
   refine wk ?_
   refine dw (fun h=>?_) (fun h=>?_)
   ·refine wk ?_
    exact ⟨⟨k,rfl,fun _=>by rw [h];exact List.getElem_mem hlt,fun _=>by omega⟩,H.sx⟩
   ·refine wk ?_
    exact ⟨sB,k+1,sB,⟨aa,KY hlt hz h,H⟩,aa⟩
  ·refine wk ?_
   refine ⟨⟨-1,rfl,fun h=>by omega,fun h=>?_⟩,H.sx⟩
   rw [List.take_of_length_le aa] at hz
   exact absurd h hz
 refine eV Tryz.func239 9 [0,1,4] ?_
 conv=>whnf
 refine key.use ?_
 rintro v w ⟨⟨i,rfl,hi⟩,H⟩
 conv=>whnf
 exact ⟨by simp only [hi],H⟩
theorem pB (hV:Sub V W) {b:Nat} {k:Int} (hb:V.cell? ⟨b,0,none⟩=some (iv k)) {s:Sl} {l:List Int} (hs:aw ct V s l) (hl:l.length≤1099511627776) {p:Prop} [Decidable p] (hp:p↔k∈l) :
  aj Tryz.prog 325 [s.v,.pointer (some ⟨b,0,none⟩)].toArray W fun v w'=>v=.bool (decide p)∧Rel W V [] V w':=by
 have H:=Rel.start hV
 refine eV Tryz.func325 8 [0,1,3] ?_
 refine wk ?_
 refine (NZ H.data hs hl k).use ?_
 rintro v w ⟨rfl,K⟩
 replace H:=H.call K
 refine wk ?_
 exact ⟨by simp only [hp],H⟩
theorem Tl (hV:Sub V W) (s:List UInt8):aj Tryz.prog 327 [str s].toArray W fun v w'=>v=.bool (!dp s)∧Rel W V [] V w':=by
 have H:=Rel.start hV
 refine eV Tryz.func327 6 [0,2] ?_
 refine wk ?_
 refine (I9 H.data s).use ?_
 rintro v w ⟨rfl,K⟩
 replace H:=H.call K
 refine wk ?_
 exact H
end
section
variable {V W:World}
theorem Nz (hV:Sub V W) {h:VH} {v:ah} (hv:bc V h v) (hB:VB 1099511627776 v):aj Tryz.prog 307 [fG h].toArray W fun r w'=>r=iv (ee v)∧Rel W V [] V w':=by
 have H:=Rel.start hV
 have e1:=hv.kind
 have e2:=hv.num
 have l1:=hv.bytes.len
 have l2:=hv.names.len
 have l3:=hv.vc
 have hns:=hv.names
 have hnl:=hB.names
 have QV:=hns.cap
 obtain ⟨k,n,bs,ss,pl⟩:=h
 dsimp only at e1 e2 l1 l2 l3 hns QV
 subst e1 e2
 refine nE ad Tryz.func307 rfl ab 88 rfl ae [0,1,2,3,4,5,7,12,64,69,74,75,76,77,86] ?_
 refine aB.cc ad ?_
 refine wk ?_
 refine H.nA ?_;clear H;intro w b1 H
 refine wk ?_
 obtain ⟨V1,hV1,H,gN⟩:=H.bJ
 have hc1:∀j u,[iv v.kind,iv v.num,bs.v,ss.v,pl.v][j]?=some u→V1.cell? ⟨b1,0+j,none⟩=some u:=fun j u hj=>by rw [Nat.zero_add];exact gN.bt hj
 have hk0:V1.cell? ⟨b1,0,none⟩=some (iv v.kind):=gN.bt rfl
 replace hns:=hns.up hV1
 have H0:=H
 replace H:=Rel.start H.data
 refine aB.cc ad ?_
 refine wk ?_
 refine aB.lZ ad (fun _:Unit=>[(1,.pointer (some ⟨b1,0,none⟩))]) (fun _ w'=>((1≤v.kind∧v.kind≤4)∧¬ij v∧v.parts.length≤600∧v.names.any (fun s=>!dp s)=false)∧Rel w V1 [] V1 w') ?_ ?_
 ·have n5:¬(1≤v.kind∧v.kind≤4)→ee v=5:=fun h=>by rw [ee,if_pos h]
  have n6:(1≤v.kind∧v.kind≤4)→ij v→ee v=6:=fun h h2=>by rw [ee,if_neg aa,if_pos h2]
  have n14:(1≤v.kind∧v.kind≤4)→¬ij v→600<v.parts.length→ee v=14:=fun h h2 h3=>by rw [ee,if_neg aa,if_neg h2,if_pos h3]
  have n7:(1≤v.kind∧v.kind≤4)→¬ij v→¬600<v.parts.length→v.names.any (fun s=>!dp s)=true→ee v=7:=fun h h2 h3 h4=>by rw [ee,if_neg aa,if_neg h2,if_neg h3,if_pos h4]
  refine wk ?_
  by_cases hr:1≤v.kind∧v.kind≤4
  rotate_left
  ·refine H.nA ?_;clear H;intro w bh H
   obtain ⟨V2,hV2,H,js⟩:=H.bJ
   refine wk ?_
   refine (pB (s:=⟨some ⟨bh,0,none⟩,4,4⟩) (l:=[1,2,3,4]) (p:=1≤v.kind∧v.kind≤4) H.data (hV2.cell hk0) ⟨rfl,Nat.le_refl _,js.cells⟩ ag (by simp;try omega)).use ?_
   rintro v w ⟨rfl,K⟩
   (replace H:=H.aq K)
   replace H:=H.back
   refine wk ?_
   exact ⟨by rw [n5 hr],(H0.call H).back⟩
  refine H.nA ?_;clear H;intro w bh H
  obtain ⟨V2,hV2,H,js⟩:=H.bJ
  refine wk ?_
  refine (pB (s:=⟨some ⟨bh,0,none⟩,4,4⟩) (l:=[1,2,3,4]) (p:=1≤v.kind∧v.kind≤4) H.data (hV2.cell hk0) ⟨rfl,Nat.le_refl _,js.cells⟩ ag (by simp;try omega)).use ?_
  rintro v w ⟨rfl,K⟩
  (replace H:=H.aq K)
  replace H:=H.back
  refine wk ?_
  have n6:=n6 hr
  have n14:=n14 hr
  have n7:=n7 hr
  unfold ij at n6 n14 n7 ⊢
  by_cases a1:v.num=0
  all_goals by_cases k1:v.kind=1
  all_goals
   refine wk ?_
   try (
    refine H.nA ?_;clear H;intro w bh H
    obtain ⟨V2,hV2,H,js⟩:=H.bJ
    refine wk ?_
    refine (pB (s:=⟨some ⟨bh,0,none⟩,1,1⟩) (l:=[1]) (p:=v.kind=1) H.data (hV2.cell hk0) ⟨rfl,Nat.le_refl _,js.cells⟩ ag (by simp;try omega)).use ?_
    rintro v w ⟨rfl,K⟩
    (replace H:=H.aq K)
    replace H:=H.back
    refine wk ?_
    try exact ⟨by rw [n6 aa],(H0.call H).back⟩)
  all_goals by_cases a2:v.bytes.length=0
  all_goals by_cases k2:v.kind=2
  all_goals first|(exfalso;omega)|skip
  all_goals
   refine wk ?_
   try (
    refine H.nA ?_;clear H;intro w bh H
    obtain ⟨V2,hV2,H,js⟩:=H.bJ
    refine wk ?_
    refine (pB (s:=⟨some ⟨bh,0,none⟩,1,1⟩) (l:=[2]) (p:=v.kind=2) H.data (hV2.cell hk0) ⟨rfl,Nat.le_refl _,js.cells⟩ ag (by simp;try omega)).use ?_
    rintro v w ⟨rfl,K⟩
    (replace H:=H.aq K)
    replace H:=H.back
    refine wk ?_
    try exact ⟨by rw [n6 aa],(H0.call H).back⟩)
  all_goals by_cases a3:v.names.length=0
  all_goals by_cases k4:v.kind=4
  all_goals first|(exfalso;omega)|skip
  all_goals
   refine wk ?_
   try (
    refine H.nA ?_;clear H;intro w bh H
    obtain ⟨V2,hV2,H,js⟩:=H.bJ
    refine wk ?_
    refine (pB (s:=⟨some ⟨bh,0,none⟩,1,1⟩) (l:=[4]) (p:=v.kind=4) H.data (hV2.cell hk0) ⟨rfl,Nat.le_refl _,js.cells⟩ ag (by simp;try omega)).use ?_
    rintro v w ⟨rfl,K⟩
    (replace H:=H.aq K)
    replace H:=H.back
    refine wk ?_
    try exact ⟨by rw [n6 aa],(H0.call H).back⟩)
  all_goals by_cases a4:v.parts.length=0
  all_goals
   refine wk ?_
   try (
    refine H.nA ?_;clear H;intro w bh H
    obtain ⟨V2,hV2,H,js⟩:=H.bJ
    refine wk ?_
    refine (pB (s:=⟨some ⟨bh,0,none⟩,2,2⟩) (l:=[3,4]) (p:=3≤v.kind) H.data (hV2.cell hk0) ⟨rfl,Nat.le_refl _,js.cells⟩ ag (by simp;try omega)).use ?_
    rintro v w ⟨rfl,K⟩
    (replace H:=H.aq K)
    replace H:=H.back
    refine wk ?_
    try exact ⟨by rw [n6 aa],(H0.call H).back⟩)
  all_goals by_cases a5:v.names.length=v.parts.length
  all_goals first|(exfalso;omega)|skip
  all_goals
   refine wk ?_
   refine H.nA ?_;clear H;intro w bh H
   obtain ⟨V2,hV2,H,js⟩:=H.bJ
   refine wk ?_
   refine (pB (s:=⟨some ⟨bh,0,none⟩,1,1⟩) (l:=[4]) (p:=v.kind=4) H.data (hV2.cell hk0) ⟨rfl,Nat.le_refl _,js.cells⟩ ag (by simp;try omega)).use ?_
   rintro v w ⟨rfl,K⟩
   (replace H:=H.aq K)
   replace H:=H.back
   refine wk ?_
   try exact ⟨by rw [n6 aa],(H0.call H).back⟩
  all_goals by_cases a6:600<v.parts.length
  all_goals first|(exfalso;omega)|skip
  all_goals
   refine wk ?_
   try exact ⟨by rw [n14 aa a6],(H0.call H).back⟩
  all_goals
   refine (NX H.data hns hnl (fun s=>!dp s) (fun x w hw=>Tl hw x)).use ?_
   rintro r w ⟨rfl,K⟩
   (replace H:=H.aq K)
   refine wk ?_
   refine q7 (fun h1=>?_) (fun h1=>?_)
   ·refine wk ?_
    exact ⟨by rw [n7 aa a6 h1],(H0.call H).back⟩
   ·refine wk ?_
    exact ⟨(),sB,⟨aa,aa,aa,h1⟩,H⟩
 clear H
 rintro _ w ⟨⟨hr,hf,G7,P3⟩,H⟩
 have Hy:ee v=if v.names.Nodup then 0 else 8:=by
  rw [ee,if_neg aa,if_neg hf,if_neg aa,if_neg (by rw [P3];simp)]
  by_cases hn:v.names.Nodup
  ·rw [if_neg (by simpa using hn),if_pos hn]
  ·rw [if_pos hn,if_neg hn]
 replace H:Rel W V [] V1 w:=H0.call H
 refine aB.cc ad ?_
 refine wk ?_
 refine aK (S:=Nat) ad [0,1,3,7,12,64,69,74,75] (fun k=>[(76,iv k)]) (fun k w'=>k≤v.names.length∧(v.names.take k).Nodup∧Rel W V [] V1 w') (fun k _=>v.names.length - k) 0 ?_
 conv=>whnf
 refine ⟨sB,⟨aa,ae,H⟩,?_⟩
 clear H
 rintro k w ⟨hk,hz,H⟩
 by_cases hlt:k<v.names.length
 rotate_left
 ·rw [List.take_of_length_le aa] at hz
  refine wk ?_
  refine aB.go ad ?_
  refine wk ?_
  exact ⟨by rw [Hy,if_pos hz],H.back⟩
 obtain ⟨hp,hc⟩:=hns.nL (g:=str) (fun _=>rfl) hlt
 refine wk ?_
 refine (N0 H.data (hns.Oc (n:=1) (fun _=>rfl) (b:=k) aa) (by simp;omega) v.names[k]).use ?_
 rintro r w ⟨rfl,K⟩
 (replace H:=H.aq K)
 refine dw (fun h5=>?_) (fun h5=>?_)
 ·refine wk ?_
  refine ⟨?_,H.back⟩
  rw [Hy,if_neg]
  intro hn
  have h6:=hn.sublist (List.take_sublist (k+1) v.names)
  rw [List.take_succ_eq_append_getElem hlt,List.nodup_append] at h6
  exact h6.2.2 _ h5 _ ae rfl
 ·refine wk ?_
  refine ⟨sB,k+1,sB,⟨aa,?_,H⟩,aa⟩
  rw [List.take_succ_eq_append_getElem hlt,List.nodup_append]
  exact ⟨hz,ae,fun a ha b hb=>by rw [List.mem_singleton.1 hb];exact fun e=>h5 (e ▸ ha)⟩
end
section
variable {V W:World}
theorem A5 (hV:Sub V W) (c i:Int):aj Tryz.prog 268 [iv c,iv i].toArray W fun v w'=>v=gq c i∧Rel W V [] V w':=by
 have H:=Rel.start hV
 refine eV Tryz.func268 8 [0,1,4] ?_
 refine H.wg ?_;clear H;intro _ _ w H
 exact H.sx
def ND (r:Except (Int×Int) Nat) (v:Value):Prop:=match r with
 | .ok m=>v=.tuple #[iv m,gq 0 0]
 | .error e=>v=.tuple #[iv 0,gq e.1 e.2]∧e.1≠0
theorem DL:∀ {l:List (ah×Nat)} {n:Nat} {e:Int×Int},scan l n=.error e→e.1≠0
 | [],n,e,h=>by simp [scan] at h
 | (v,d)::l,n,e,h=>by
  simp only [scan] at h
  split at h
  ·rename_i h1;cases h;exact h1
  ·exact DL h
theorem NF {d n m:Nat} {v:ah} (h:eH d v n=.ok m):n<m:=by
 obtain ⟨h1,_⟩:=zk _ _ _ h
 rw [vd] at h1
 simp at h1
 omega
theorem Ff {d n m:Nat} {v:ah} (h:eH d v n=.ok m):m≤600:=by
 obtain ⟨h1,h2⟩:=zk _ _ _ h
 rcases Nat.lt_or_ge 600 m with h3|h3
 ·have h0:=NF h
  have h4:m - 1 - n<(pre d v).length:=aa
  have h5:=h2 (m - 1 - n) ((pre d v)[m - 1 - n]).1 ((pre d v)[m - 1 - n]).2 (by rw [List.getElem?_eq_getElem h4])
  unfold hY at h5
  rw [if_pos aa] at h5
  cases h5
 ·exact h3
theorem NA:∀(N:Nat) {V W:World},Sub V W→∀ {h:VH} {v:ah} {n d:Nat},SizeOf.sizeOf v<N→bc V h v→VB 1099511627776 v→n≤1000→d≤1000 →
  aj Tryz.prog 266 [fG h,iv n,iv (d+1)].toArray W fun r w'=>ND (eH d v n) r∧Rel W V [] V w':=by
 intro N
 induction N with
 | zero=>intro V W _ h v n d hs;omega
 | succ N ih =>
  intro V W hV h v n d hs hv hB hn hd
  have H:=Rel.start hV
  have l3:=hv.vc
  have hpl:=hB.parts
  have e0:=Ap d v n
  refine eV Tryz.func266 52 [0,1,2,3,6,7,8,9,11,12,18,24,31,32,33,34,47] ?_
  refine wk ?_
  refine H.nA ?_;clear H;intro w b3 H
  refine wk ?_
  refine H.nA ?_;clear H;intro w b7 H
  by_cases ed:600≤n∨10≤d
  ·have e1:eH d v n=.error (2,n):=by
    rw [e0,if_pos (by rw [hY,if_pos ed];decide),hY,if_pos ed]
   rw [e1]
   by_cases Y8:600≤n
   all_goals
    refine wk ?_
    refine (A5 H.data 2 n).use ?_
    rintro r w ⟨rfl,K⟩
    (replace H:=H.aq K)
    refine H.wg ?_;clear H;intro w H
    exact ⟨⟨rfl,by show (2:Int)≠0;decide⟩,H.sx⟩
  refine wk ?_
  refine (Nz H.data hv hB).use ?_
  rintro r w ⟨rfl,K⟩
  (replace H:=H.aq K)
  have e1:hY v n d=ee v:=by rw [hY,if_neg ed]
  rw [e1] at e0
  by_cases hz:ee v=0
  rotate_left
  ·rw [if_pos hz] at e0
   rw [e0]
   refine wk ?_
   refine (A5 H.data (ee v) n).use ?_
   rintro r w ⟨rfl,K⟩
   (replace H:=H.aq K)
   refine H.wg ?_;clear H;intro w H
   exact ⟨⟨rfl,hz⟩,H.sx⟩
  rw [if_neg (fun h=>h hz)] at e0
  obtain ⟨_,_,G7,_⟩:=uX hz
  refine wk ?_
  refine aK (S:=Nat×Nat) ad [0,1,2,3,7,8,18,24,31,32] (fun k=>[(9,iv k.2),(33,iv k.1)]) (fun k w'=>k.1≤v.parts.length∧jl (d+1) (v.parts.take k.1) (n+1)=.ok k.2∧k.2≤601∧Rel W V [.al b7 [iv 0,iv 0] 31,.al b3 (br h) 27] V w') (fun k _=>v.parts.length - k.1) (0,n+1) ?_
  conv=>whnf
  refine ⟨sB,⟨aa,rfl,aa,H.sx⟩,?_⟩
  clear H
  rintro ⟨k,m⟩ w ⟨hk,pG,hm,H⟩
  dsimp only at hk pG hm H
  by_cases hlt:k<v.parts.length
  rotate_left
  ·rw [List.take_of_length_le aa] at pG
   refine H.wg ?_;clear H;intro w H
   rw [e0,pG]
   exact ⟨rfl,H.sx⟩
  obtain ⟨hp,x,hx,q0,q1,q2,q3,q4⟩:=hv.yL hlt
  have hmem:=List.getElem_mem hlt
  have xB:jl (d+1) (v.parts.take (k+1)) (n+1)=eH (d+1) v.parts[k] m:=by
   rw [List.take_succ_eq_append_getElem hlt,NC,pG]
  have hall:∀e,eH (d+1) v.parts[k] m=.error e→jl (d+1) v.parts (n+1)=.error e:=by
   intro e he
   rw [he] at xB
   unfold jl at xB ⊢
   conv=>lhs;rw [←List.take_append_drop (k+1) v.parts,List.flatMap_append,zj,xB]
  refine wk ?_
  refine H.nA ?_;clear H;intro w Ae H
  refine H.wh ?_;clear H;intro w H
  refine H.nA ?_;clear H;intro w oW H
  refine wk ?_
  refine (ih H.data (n:=m) (d:=d+1) (by have:=ah.si hmem;omega) hx (hB.part _ hmem) aa aa).use ?_
  rintro r w ⟨hr,K⟩
  (replace H:=H.aq K)
  cases hq:eH (d+1) v.parts[k] m with
  | ok m' =>
   rw [hq] at hr
   have hr:r=.tuple #[iv m',gq 0 0]:=hr
   subst hr
   have:=Ff hq
   refine H.wg ?_;clear H;intro w H
   exact ⟨sB,(k+1,m'),sB,⟨aa,by rw [xB,hq],aa,H.sx⟩,by dsimp only;omega⟩
  | error e =>
   rw [hq] at hr
   obtain ⟨rfl,hne⟩:=hr
   have:=hall e hq
   rw [e0,this]
   refine H.wg ?_;clear H;intro w H
   refine dV 13 [] [0,1,2] H ?_;clear H;intro w H
   refine H.wg ?_;clear H;intro w H
   exact ⟨⟨rfl,hne⟩,H.sx⟩
end
theorem OK (k:Int) (s:List (List UInt8)) (a b:List ah):ig k s (a++b)=ig k s a++(b.zipIdx a.length).flatMap fun p=>(if k=4 then cx (s.getD p.2 []) else [])++enc p.1:=by
 unfold ig
 rw [List.zipIdx_append,List.flatMap_append]
 simp
theorem OL (k:Int) (s:List (List UInt8)) (ps:List ah) (i:Nat):(ig k s (ps.take i)).length≤(ig k s ps).length:=by
 conv=>rhs;rw [←List.take_append_drop i ps,OK,List.length_append]
 omega
theorem OQ {k:Int} {s:List (List UInt8)} {ps:List ah} {i:Nat} (hi:i<ps.length):(ig k s (ps.take i)).length+(((if k=4 then cx (s.getD i []) else []):List UInt8).length+(enc ps[i]).length)≤(ig k s ps).length:=by
 have:=OL k s ps (i+1)
 rw [List.take_succ_eq_append_getElem hi,Gm] at this
 simp only [List.length_append,List.length_take] at this
 rw [show min i ps.length=i by omega] at this
 exact this
theorem OV:∀(N:Nat) {V W:World},Sub V W→∀ {h:VH} {v:ah} {n d m:Nat},SizeOf.sizeOf v<N→bc V h v→VB 1048576 v→eH d v n=.ok m→(enc v).length≤1099511627000 →
  aj Tryz.prog 267 [fG h].toArray W fun q w'=>∃r:Sl,q=r.v∧Rel W V [.row r 5 1 ((enc v).flatMap ay)] V w':=by
 intro N
 induction N with
 | zero=>intro V W _ h v n d m hs;omega
 | succ N ih =>
  intro V W hV h v n d m hs hv hB hok hlen
  have H:=Rel.start hV
  have l3:=hv.vc
  have hpl:=hB.parts
  have hbl:=hB.bytes
  have hns:=hv.names
  have QU:=hB.num
  have BT:=hB.kind
  obtain ⟨_,_,hr,hf,G7,hna,_,hpo⟩:=Aq hok
  have he:=AW v
  have hel:=congrArg List.length he
  have e1:=hv.kind
  have e2:=hv.num
  obtain ⟨hk,hn,bs,ss,pl⟩:=h
  have l2:=hns.len
  dsimp only at e1 e2 l2 l3 hns
  subst e1 e2
  have mC:=hv.bytes
  have p1:=cD BT.1 BT.2
  change aj Tryz.prog 267 [.agg [iv v.kind,iv v.num,bs.v,ss.v,pl.v].toArray].toArray W _
  refine eV Tryz.func267 57 [0,1,2,3,4,5,10,11,18,32,33,34,35,41] ?_
  refine wk ?_
  refine H.nA ?_;clear H;intro w b1 H
  refine wk ?_
  refine (eQ (n:=v.kind) H.data BT).use ?_
  rintro q w ⟨r,rfl,K⟩
  (replace H:=Rel.call H K)
  simp only [List.cons_append,List.nil_append] at H
  by_cases k1:v.kind=1
  ·rw [if_pos k1] at he hel
   simp only [List.length_append] at hel
   refine wk ?_
   refine (eQ (n:=v.num) H.data QU).use ?_
   rintro q w ⟨r1,rfl,K⟩
   (replace H:=Rel.call H K)
   simp only [List.cons_append,List.nil_append] at H
   refine wk ?_
   refine Rel.cQ H (i:=0) rfl aa ?_
   clear H
   intro rn w H
   refine wk ?_
   exact ⟨rn,rfl,by rw [he];exact H.sx⟩
  rw [if_neg k1] at he hel
  by_cases k2:v.kind=2
  ·rw [if_pos k2] at he hel
   simp only [List.length_append] at hel
   refine wk ?_
   refine (q5 H.data mC aa).use ?_
   rintro q w ⟨r1,rfl,K⟩
   (replace H:=Rel.call H K)
   simp only [List.cons_append,List.nil_append] at H
   refine wk ?_
   refine Rel.cQ H (i:=0) rfl aa ?_
   clear H
   intro rn w H
   refine wk ?_
   exact ⟨rn,rfl,by rw [he];exact H.sx⟩
  rw [if_neg k2,←List.append_assoc] at he
  rw [if_neg k2] at hel
  simp only [List.length_append] at hel
  refine wk ?_
  rw [l3]
  refine (eQ (n:=v.parts.length) H.data (by constructor<;>omega)).use ?_
  rintro q w ⟨r1,rfl,K⟩
  (replace H:=Rel.call H K)
  simp only [List.cons_append,List.nil_append] at H
  refine wk ?_
  refine Rel.cQ H (i:=0) rfl aa ?_
  clear H
  intro r w H
  refine wk ?_
  refine aK (S:=Nat×Sl) ad [0,1,2,10,11,18,32,33] (fun k=>[(3,k.2.v),(34,iv k.1)]) (fun k w'=>k.1≤v.parts.length∧Rel W V [.row k.2 5 1 ((ax v.kind++ax v.parts.length++ig v.kind v.names (v.parts.take k.1)).flatMap ay),.al b1 [iv v.kind,iv v.num,bs.v,ss.v,pl.v] 27] V w') (fun k _=>v.parts.length - k.1) (0,r) ?_
  conv=>whnf
  refine ⟨sB,⟨aa,by simp only [List.take_zero,OM,List.append_nil];exact H⟩,?_⟩
  clear H
  rintro ⟨k,r⟩ w ⟨hk,H⟩
  dsimp only at hk H
  by_cases hlt:k<v.parts.length
  rotate_left
  ·rw [List.take_of_length_le aa,←he] at H
   refine wk ?_
   exact ⟨r,rfl,H.sx⟩
  obtain ⟨hp,x,hx,q0,q1,q2,q3,q4⟩:=hv.yL hlt
  have hmem:=List.getElem_mem hlt
  have hle:=OQ (k:=v.kind) (s:=v.names) hlt
  obtain ⟨a',m',dJ⟩:=wF hpo _ hmem
  have dx:=Gm v.kind v.names (v.parts.take k) v.parts[k]
  rw [←List.take_succ_eq_append_getElem hlt,List.length_take,show min k v.parts.length=k by omega] at dx
  refine wk ?_
  refine H.nA ?_;clear H;intro w b5 H
  by_cases k4:v.kind=4
  ·rw [if_pos k4] at dx hle
   unfold ij at hf
   have rL:k<v.names.length:=aa
   obtain ⟨xU,Cb⟩:=hns.nL (g:=str) (fun _=>rfl) rL
   have hnl:=yr (hna _ (List.getElem_mem rL))
   have ui:v.names.getD k []=v.names[k]:=by simp [List.getD,rL]
   rw [ui] at dx hle
   refine H.wg ?_;clear H;intro w H
   refine Rel.N8 Tryz.underlying9 Tryz.underlying22 Tryz.underlying5 H v.names[k] ?_
   clear H
   intro V1 s1 w he hV1 hs1 H
   refine wk ?_
   refine (q5 H.data hs1 aa).use ?_
   rintro q w ⟨r1,rfl,K⟩
   (replace H:=Rel.call H K)
   simp only [List.cons_append,List.nil_append] at H
   replace H:=H.back
   refine wk ?_
   refine Rel.cQ H (i:=1) rfl (by simp only [List.length_append];omega) ?_
   clear H
   intro r w H
   refine wk ?_
   refine (ih H.data (by have:=ah.si hmem;omega) hx (hB.part _ hmem) dJ aa).use ?_
   rintro q w ⟨r1,rfl,K⟩
   (replace H:=Rel.call H K)
   simp only [List.cons_append,List.nil_append] at H
   refine wk ?_
   refine Rel.cQ H (i:=1) rfl (by simp only [List.length_append];omega) ?_
   clear H
   intro r w H
   refine wk ?_
   refine ⟨sB,(k+1,r),sB,⟨aa,?_⟩,by dsimp only;omega⟩
   dsimp only
   rw [dx]
   simp only [List.append_assoc] at H ⊢
   exact H.sx
  ·rw [if_neg k4] at dx hle
   refine H.wg ?_;clear H;intro w H
   refine (ih H.data (by have:=ah.si hmem;omega) hx (hB.part _ hmem) dJ aa).use ?_
   rintro q w ⟨r1,rfl,K⟩
   (replace H:=Rel.call H K)
   simp only [List.cons_append,List.nil_append] at H
   refine wk ?_
   refine Rel.cQ H (i:=1) rfl (by simp only [List.length_append];omega) ?_
   clear H
   intro r w H
   refine wk ?_
   refine ⟨sB,(k+1,r),sB,⟨aa,?_⟩,by dsimp only;omega⟩
   dsimp only
   rw [dx]
   simp only [List.append_assoc,List.nil_append] at H ⊢
   exact H.sx
theorem Uk {B:Nat} (v:ah):∀ {d:Nat},VB B v→∀p∈pre d v,VB B p.1:=by
 induction v using (measure (fun v:ah=>SizeOf.sizeOf v)).wf.induction with
 | _ v ih =>
  intro d hB p hp
  rw [vd] at hp
  rcases List.mem_cons.1 hp with rfl|hp
  ·exact hB
  ·split at hp
   ·simp at hp
   ·obtain ⟨q,hq,hp⟩:=List.mem_flatMap.1 hp
    have hq:=List.mem_of_mem_take hq
    exact ih q (ah.si hq) (hB.part q hq) p hp
theorem Tg {l:List (List UInt8)} (h:∀s∈l,dp s=true):(l.map fun s=>1+s.length).sum≤l.length*33:=by
 induction l with
 | nil=>simp
 | cons s l ih =>
  have h1:=yr (h s ae)
  have h2:=ih fun x hx=>h x (by simp [hx])
  simp only [List.map_cons,List.sum_cons,List.length_cons]
  omega
theorem Tk {v:ah} (hB:VB 1048576 v) (h:ee v=0):rV v≤1100000:=by
 obtain ⟨h1,h2,h3,h4,_⟩:=uX h
 have hn:=hB.num
 have hb:=hB.bytes
 unfold ij at h2
 have a1:=cD hn.1 hn.2
 have a2:=cD (n:=v.bytes.length) aa aa
 have a3:=cD (n:=v.parts.length) aa aa
 have a4:=Tg h4
 unfold rV
 split
 ·omega
 ·split
  ·rw [cx,List.length_append];omega
  ·have:v.names.length≤600:=aa
   have:=Nat.mul_le_mul_right 33 this
   omega
theorem Wt {l:List (ah×Nat)} (h:∀p∈l,rV p.1≤1100000):iY l≤l.length*1100000:=by
 induction l with
 | nil=>simp [iY]
 | cons p l ih =>
  have h1:=h p ae
  have h2:=ih fun q hq=>h q (by simp [hq])
  simp only [iY,List.map_cons,List.sum_cons,List.length_cons] at h2 ⊢
  omega
theorem OR {v:ah} {n d m:Nat} (hB:VB 1048576 v) (h:eH d v n=.ok m):(enc v).length≤1000000000:=by
 rw [OP v h]
 obtain ⟨h1,h2⟩:=zk _ _ _ h
 have h3:=Ff h
 have:=Wt (l:=pre d v) fun p hp=>by
  obtain ⟨i,hi,rfl⟩:=List.getElem_of_mem hp
  refine Tk (Uk v hB _ (List.getElem_mem hi)) ?_
  have:=h2 i _ _ (List.getElem?_eq_getElem hi)
  unfold hY at this
  split at this
  ·cases this
  ·exact this
 have h4:(pre d v).length≤600:=aa
 have:=Nat.mul_le_mul_right 1100000 h4
 omega
theorem sR {v:ah} (h:(bC v).1=0):bC v=(0,0):=by
 unfold bC at h ⊢
 split at h
 ·rename_i e he
  exact absurd h (DL he)
 ·split at h
  ·cases h
  ·rename_i h1;rw [if_neg h1]
section
variable {V W:World}
theorem OT (hV:Sub V W) {h:VH} {v:ah} (hv:bc V h v) (hB:VB 1048576 v):aj Tryz.prog 199 [fG h].toArray W fun q w'=>∃(V':World) (r:Sl),Sub V V'∧Rel W V [] V' w'∧q=.tuple #[r.v,gq (bC v).1 (bC v).2]∧((bC v).1≠0∧r=⟨none,0,0⟩∨(bC v).1=0∧ao V' r (enc v)):=by
 have H:=Rel.start hV
 refine eV Tryz.func199 24 [0,1,2,3,5,6,14,20] ?_
 refine wk ?_
 refine H.nA ?_;clear H;intro w b1 H
 refine wk ?_
 refine H.nA ?_;clear H;intro w b3 H
 refine wk ?_
 refine (NA (SizeOf.sizeOf v+1) (n:=0) (d:=0) H.data (Nat.lt_succ_self _) hv (hB.mono aa) aa aa).use ?_
 rintro q w ⟨hq,K⟩
 (replace H:=H.aq K)
 cases hc:eH 0 v 0 with
 | error e =>
  rw [hc] at hq
  obtain ⟨rfl,hne⟩:=hq
  have cK:bC v=e:=by rw [bC,hc]
  rw [cK]
  refine wk ?_
  refine H.nA ?_;clear H;intro w b5 H
  refine H.wg ?_;clear H;intro w H
  refine dV 3 [] [0,1,2] H ?_;clear H;intro w H
  refine H.wg ?_;clear H;intro w H
  exact ⟨V,⟨none,0,0⟩,Sub.refl _,H.sx,rfl,.inl ⟨hne,rfl⟩⟩
 | ok m =>
  rw [hc] at hq
  have hq:q=.tuple #[iv m,gq 0 0]:=hq
  subst hq
  have pY:=OR hB hc
  refine wk ?_
  refine H.nA ?_;clear H;intro w b5 H
  refine H.wg ?_;clear H;intro w H
  refine (OV (SizeOf.sizeOf v+1) H.data (Nat.lt_succ_self _) hv hB hc aa).use ?_
  rintro q w ⟨r,rfl,K⟩
  (replace H:=Rel.call H K)
  simp only [List.cons_append,List.nil_append] at H
  obtain ⟨V2,hV2,H,hr⟩:=Rel.aJ H (fun _=>rfl) ag
  have hrl:=hr.len
  by_cases h4:4000<(enc v).length
  ·have cK:bC v=(14, -1):=by rw [bC,hc];simp only;rw [if_pos h4]
   rw [cK]
   refine wk ?_
   refine (A5 H.data 14 (-1)).use ?_
   rintro q w ⟨rfl,K⟩
   (replace H:=H.aq K)
   refine H.wg ?_;clear H;intro w H
   exact ⟨V2,⟨none,0,0⟩,hV2,H.sx,rfl,.inl ⟨by show (14:Int)≠0;decide,rfl⟩⟩
  ·have cK:bC v=(0,0):=by rw [bC,hc];simp only;rw [if_neg h4]
   rw [cK]
   refine H.wg ?_;clear H;intro w H
   exact ⟨V2,r,hV2,H.sx,rfl,.inr ⟨rfl,hr⟩⟩
theorem sP (hV:Sub V W) {h:VH} {v:ah} (hv:bc V h v) (hB:VB 1048576 v):aj Tryz.prog 124 [fG h].toArray W fun q w'=>q=gq (bC v).1 (bC v).2∧Rel W V [] V w':=by
 have H:=Rel.start hV
 refine eV Tryz.func124 11 [0,1,2,4] ?_
 refine wk ?_
 refine H.nA ?_;clear H;intro w b1 H
 refine wk ?_
 refine H.nA ?_;clear H;intro w b2 H
 refine wk ?_
 refine (OT H.data hv hB).use ?_
 rintro q w ⟨V2,r,hV2,K,rfl,_⟩
 (replace H:=H.aq K)
 refine wk ?_
 refine H.nA ?_;clear H;intro w b4 H
 refine H.wg ?_;clear H;intro _ w H
 exact Rel.back H.sx
end
noncomputable instance:DecidableEq ah:=fun a b=>Classical.propDecidable (a=b)
theorem ah.ext {a b:ah} (h1:a.kind=b.kind) (h2:a.num=b.num) (h3:a.bytes=b.bytes) (h4:a.names=b.names) (h5:a.parts=b.parts):a=b:=by
 cases a;cases b
 simp only [ah.kind,ah.num,ah.bytes,ah.names,ah.parts] at h1 h2 h3 h4 h5
 subst h1 h2 h3 h4 h5
 rfl
section
variable {V W:World}
theorem Vy:∀(N:Nat) {V W:World},Sub V W→∀ {h h':VH} {a b:ah},SizeOf.sizeOf a<N→bc V h a→bc V h' b→VB 1099511627776 a →
  aj Tryz.prog 24 [fG h,fG h'].toArray W fun q w'=>∃r:Bool,q=.bool r∧(r=true↔a=b)∧Rel W V [] V w':=by
 intro N
 induction N with
 | zero=>intro V W _ h h' a b hs;omega
 | succ N ih =>
  intro V W hV h h' a b hs ha hb hB
  have H:=Rel.start hV
  have l3:=ha.vc
  have R3:=hb.vc
  have hpl:=hB.parts
  have hnl:=hB.names
  have e1:=ha.kind
  have e2:=ha.num
  have f1:=hb.kind
  have f2:=hb.num
  have hns:=ha.names
  have H8:=hb.names
  have mC:=ha.bytes
  have Hr:=hb.bytes
  obtain ⟨hk,hn,bs,ss,pl⟩:=h
  obtain ⟨hk',hn',E2,KM,JG⟩:=h'
  dsimp only at e1 e2 l3 hns mC f1 f2 R3 H8 Hr
  subst e1 e2 f1 f2
  change aj Tryz.prog 24 [.agg [iv a.kind,iv a.num,bs.v,ss.v,pl.v].toArray,.agg [iv b.kind,iv b.num,E2.v,KM.v,JG.v].toArray].toArray W _
  refine eV Tryz.func24 62 [0,1,2,3,4,5,42,47,61] ?_
  refine wk ?_
  refine H.nA ?_;clear H;intro w b2 H
  refine wk ?_
  refine H.nA ?_;clear H;intro w b3 H
  by_cases c1:a.kind=b.kind
  rotate_left
  ·refine wk ?_
   exact ⟨false,rfl,⟨fun h=>(by cases h),fun h=>absurd (by rw [h]) c1⟩,H.sx⟩
  by_cases c2:a.num=b.num
  rotate_left
  ·refine wk ?_
   exact ⟨false,rfl,⟨fun h=>(by cases h),fun h=>absurd (by rw [h]) c2⟩,H.sx⟩
  refine wk ?_
  refine (wC H.data mC Hr).use ?_
  rintro q w ⟨rfl,K⟩
  (replace H:=H.aq K)
  by_cases c3:a.bytes=b.bytes
  rotate_left
  ·rw [decide_eq_false c3]
   refine wk ?_
   exact ⟨false,rfl,⟨fun h=>(by cases h),fun h=>absurd (by rw [h]) c3⟩,H.sx⟩
  rw [decide_eq_true c3]
  refine wk ?_
  refine (Wn H.data hns H8 hnl).use ?_
  rintro q w ⟨rfl,K⟩
  (replace H:=H.aq K)
  by_cases c4:a.names=b.names
  rotate_left
  ·rw [decide_eq_false c4]
   refine wk ?_
   exact ⟨false,rfl,⟨fun h=>(by cases h),fun h=>absurd (by rw [h]) c4⟩,H.sx⟩
  rw [decide_eq_true c4]
  by_cases c5:a.parts.length=b.parts.length
  rotate_left
  ·refine wk ?_
   exact ⟨false,rfl,⟨fun h=>(by cases h),fun h=>absurd (by rw [h]) c5⟩,H.sx⟩
  refine wk ?_
  refine aK (S:=Nat) ad [0,1,2,3,42] (fun k=>[(5,iv k)]) (fun k w'=>k≤a.parts.length∧a.parts.take k=b.parts.take k∧Rel W V [.al b3 [iv b.kind,iv b.num,E2.v,KM.v,JG.v] 27,.al b2 [iv a.kind,iv a.num,bs.v,ss.v,pl.v] 27] V w') (fun k _=>a.parts.length - k) 0 ?_
  conv=>whnf
  refine ⟨sB,⟨aa,rfl,H.sx⟩,?_⟩
  clear H
  rintro k w ⟨hk,hz,H⟩
  by_cases hlt:k<a.parts.length
  rotate_left
  ·rw [List.take_of_length_le aa,List.take_of_length_le aa] at hz
   refine wk ?_
   exact ⟨true,rfl,⟨fun _=>ah.ext c1 c2 c3 c4 hz,fun _=>rfl⟩,H.sx⟩
  have jw:k<b.parts.length:=aa
  obtain ⟨hp,x,hx,q0,q1,q2,q3,q4⟩:=ha.yL hlt
  obtain ⟨xU,x',p6,Zv,Zw,Zx,Zy,Zz⟩:=hb.yL jw
  have hmem:=List.getElem_mem hlt
  refine wk ?_
  refine dV 6 [] [0,1,2,3,4,5,6,7,8,9,10,11] H ?_;clear H;intro w H
  refine wk ?_
  refine (ih H.data (by have:=ah.si hmem;omega) hx p6 (hB.part _ hmem)).use ?_
  rintro q w ⟨r,rfl,hr,K⟩
  (replace H:=H.aq K)
  cases r with
  | false =>
   have hne:¬a.parts[k]=b.parts[k]:=fun h=>by have:=hr.2 h;cases this
   refine wk ?_
   refine ⟨false,rfl,⟨fun h=>(by cases h),fun h=>absurd ?_ hne⟩,H.sx⟩
   subst h
   rfl
  | true =>
   have he:=hr.1 rfl
   refine wk ?_
   refine ⟨sB,k+1,sB,⟨aa,?_,H.sx⟩,aa⟩
   rw [List.take_succ_eq_append_getElem hlt,List.take_succ_eq_append_getElem jw,hz,he]
end
abbrev vr:List UInt8:=[114,97,116,101]
abbrev vo:List UInt8:=[99,104,97,110,110,101,108,115]
abbrev vt:List UInt8:=[115,97,109,112,108,101,115]
abbrev yz (n:Int):ah:=.mk 1 n [] [] []
abbrev E6 (b:List UInt8):ah:=.mk 2 0 b [] []
abbrev l4 (rate ch:Int) (b:List UInt8):ah:=.mk 4 0 [] [vr,vo,vt] [yz rate,yz ch,E6 b]
def gh (l:List Int):List UInt8:=l.flatMap fun v=>eE true (iA true v)
theorem Di {α:Type} {f:Nat→List α} {g:Nat→List α} {n:Nat} (h:∀i,i<n→f i=g i):(List.range n).flatMap f=(List.range n).flatMap g:=by
 rw [List.flatMap_def,List.flatMap_def]
 congr 1
 exact List.map_congr_left fun i hi=>h i (List.mem_range.1 hi)
theorem JX {α β:Type} [Inhabited α] {f:α→List β} (l:List α):(List.range l.length).flatMap (fun i=>f (l[i]?.getD default))=l.flatMap f:=by
 induction l with
 | nil=>rfl
 | cons x l ih =>
  rw [List.length_cons,List.range_succ_eq_map,List.flatMap_cons,List.flatMap_map,List.flatMap_cons]
  congr 1
theorem VV (l:List Int) (ch:Nat):oG l 1 ch=gh l:=by
 unfold oG gh
 rw [←JX (f:=fun v:Int=>eE true (iA true v)) l]
 refine Di fun i hi=>?_
 unfold l6
 rw [if_neg (by simp [gQ])]
 simp only [List.getElem?_map,List.getElem?_eq_getElem hi,Option.map_some,Option.getD_some]
 rfl
theorem zo (l:List Int):(gh l).length=2*l.length:=by
 unfold gh
 induction l with
 | nil=>rfl
 | cons x l ih=>rw [List.flatMap_cons,List.length_append,ih];simp [eE];omega
def oH (cs:List a8):Option (List UInt8×List UInt8):=match cs.filter bZ with
 | [f,d]=>if f.1=70∧d.1=68 then some (f.2,d.2) else none
 | _=>none
structure nv where
 rate:Nat
 ch:Nat
 coding:Nat
 fy:List Int
 notes:List dC
def rj (f d:List UInt8):Prop:=f.length=4∧(1≤at8 f 2∧at8 f 2≤2)∧at8 f 3<4∧d.length%((at8 f 3%2+1)*at8 f 2)=0
instance (f d:List UInt8):Decidable (rj f d):=by unfold rj;infer_instance
def DT (f d:List UInt8) (ns:List dC):nv:=⟨256*at8 f 0+at8 f 1,at8 f 2,at8 f 3,fA d (at8 f 3) (at8 f 2),ns⟩
def nf (cs:List a8):Option nv:=match oH cs with
 | none=>none
 | some (f,d)=>if rj f d then some (DT f d (dq 0 cs)) else none
def ko (b:List UInt8):Option nv:=match la b with
 | none=>none
 | some cs=>nf cs
def qu (x:nv):Option (ah×List UInt8):=if (bC (l4 x.rate x.ch (gh x.fy))).1≠0 then none else some (l4 x.rate x.ch (gh x.fy),iy x.coding x.notes)
def eo (b:List UInt8):Option (ah×List UInt8):=match ko b with
 | none=>none
 | some x=>qu x
theorem S9 {r x full:Nat} (hr:r<full) (hx:x<full):((r+x)%full+full - x)%full=r:=by
 by_cases h:r+x<full
 ·have e:(r+x)%full=r+x:=Nat.mod_eq_of_lt h
  rw [e,show r+x+full - x=r+full by omega,Nat.add_mod_right,Nat.mod_eq_of_lt hr]
 ·have e:(r+x)%full=r+x - full:=by rw [Nat.mod_eq_sub_mod aa,Nat.mod_eq_of_lt aa]
  rw [e,show r+x - full+full - x=r by omega,Nat.mod_eq_of_lt hr]
theorem S8 {r x full:Nat} (hr:r<full) (hx:x<full):((r+full - x)%full+x)%full=r:=by
 by_cases h:x≤r
 ·have e:(r+full - x)%full=r - x:=by rw [show r+full - x=(r - x)+full by omega,Nat.add_mod_right,Nat.mod_eq_of_lt aa]
  rw [e,show r - x+x=r by omega,Nat.mod_eq_of_lt hr]
 ·have e:(r+full - x)%full=r+full - x:=Nat.mod_eq_of_lt aa
  rw [e,show r+full - x+x=r+full by omega,Nat.add_mod_right,Nat.mod_eq_of_lt hr]
theorem Xu (w:Bool) {u:Nat} (h:u<c8 w):iA w (dS w u)=u:=by
 unfold iA dS
 unfold c8 at h
 cases w with
 | true =>
  simp only [if_true] at h ⊢
  split<;>omega
 | false =>
  simp only [Bool.false_eq_true,if_false] at h ⊢
  omega
theorem Ek {df:Bool} {ch full:Nat} {l:List Nat} {i r:Nat} (h:l[i]?=some r):(cg df ch full l)[i]?=some (if df=true∧ch≤i then (r+(cg df ch full (l.take i))[i - ch]?.getD 0)%full else r):=by
 have hlt:=(List.getElem?_eq_some_iff.1 h).1
 have key:∀(b acc:List Nat),∃x,b.foldl (fun acc r=>acc++[if df=true∧ch≤acc.length then (r+acc[acc.length - ch]?.getD 0)%full else r]) acc=acc++x:=by
  intro b
  induction b with
  | nil=>intro acc;exact ⟨[],ae⟩
  | cons y b ih =>
   intro acc
   obtain ⟨x,hx⟩:=ih (acc++[if df=true∧ch≤acc.length then (y+acc[acc.length - ch]?.getD 0)%full else y])
   exact ⟨_,by rw [List.foldl_cons,hx,List.append_assoc]⟩
 have pre:∀(a b:List Nat),∃x,cg df ch full (a++b)=cg df ch full a++x:=fun a b=>by
  obtain ⟨x,hx⟩:=key b (cg df ch full a)
  exact ⟨x,by rw [←hx];unfold cg;rw [List.foldl_append]⟩
 obtain ⟨x,hx⟩:=pre (l.take (i+1)) (l.drop (i+1))
 rw [List.take_append_drop] at hx
 have hl:(cg df ch full (l.take i)).length=i:=by rw [sL,List.length_take];omega
 rw [hx,Lr h,List.append_assoc,List.getElem?_append_right aa,hl]
 simp
theorem Xq {df:Bool} {ch full:Nat} {l:List Nat} {i j:Nat} (hj:j<i) (hi:i≤l.length):(cg df ch full (l.take i))[j]?=(cg df ch full l)[j]?:=by
 have h1:(l.take i)[j]?=some l[j]:=by rw [List.getElem?_take,if_pos hj,List.getElem?_eq_getElem]
 rw [Ek h1,Ek (List.getElem?_eq_getElem aa:l[j]?=some l[j]),List.take_take,Nat.min_eq_left aa]
theorem WR {df:Bool} {ch full:Nat} {l:List Nat} (h:∀r∈l,r<full) (hf:0<full) (hch:1≤ch) {i:Nat} (hi:i<l.length):l6 df ch full (cg df ch full l) i=l[i]:=by
 have h1:=Ek (df:=df) (ch:=ch) (full:=full) (List.getElem?_eq_getElem hi)
 have hr:=h _ (List.getElem_mem hi)
 unfold l6
 by_cases hd:df=true∧ch≤i
 ·rw [if_pos hd,h1,Option.getD_some,if_pos hd,Xq aa aa]
  have hb:=Lq (df:=df) (ch:=ch) h hf (i - ch)
  generalize (cg df ch full l)[i - ch]?.getD 0=x at hb
  generalize l[i]=r at hr
  exact S9 hr hb
 ·rw [if_neg hd,h1,Option.getD_some,if_neg hd]
theorem Ls {df:Bool} {ch full:Nat} (hf:0<full) (hch:1≤ch) (U:List Nat) (h:∀i:Nat,U[i]?.getD 0<full):∀k,k≤U.length→cg df ch full ((List.range k).map (l6 df ch full U))=U.take k
 | 0,_=>rfl
 | k+1,hk=>by
  have ih:=Ls (df:=df) (ch:=ch) hf hch U h k aa
  rw [List.range_succ,List.map_append,List.map_singleton,zC,ih,List.take_succ_eq_append_getElem aa]
  congr 1
  have hl:(U.take k).length=k:=by simp;omega
  rw [hl]
  have e0:U[k]?.getD 0=U[k]:=by rw [List.getElem?_eq_getElem aa];rfl
  have b0:=h k
  rw [e0] at b0
  by_cases hd:df=true∧ch≤k
  ·rw [if_pos hd,List.getElem?_take,if_pos aa]
   unfold l6
   rw [if_pos hd,e0]
   have b1:=h (k - ch)
   generalize U[k - ch]?.getD 0=x at b1
   generalize U[k]=r at b0
   exact congrArg (fun z=>[z]) (S8 b0 b1)
  ·rw [if_neg hd]
   unfold l6
   rw [if_neg hd,e0]
theorem Ut (w:Bool) (d:List UInt8) (hev:w=true→d.length%2=0):(List.range (dy w d).length).flatMap (fun i=>eE w ((dy w d)[i]?.getD 0))=d:=by
 cases w with
 | false =>
  have e:∀i,i<d.length→eE false ((dy false d)[i]?.getD 0)=[d[i]?.getD 0]:=fun i hi=>by
   rw [yU hi]
   simp [eE,at8]
  rw [qk,if_neg ae,Di e]
  exact (JX (f:=fun x:UInt8=>[x]) d).trans ae
 | true =>
  have hl:=hev rfl
  rw [qk,if_pos rfl]
  have key:∀n,2*n≤d.length→(List.range n).flatMap (fun i=>eE true ((dy true d)[i]?.getD 0))=d.take (2*n):=by
   intro n
   induction n with
   | zero=>intro _;rfl
   | succ n ih =>
    intro hn
    rw [List.range_succ,List.flatMap_append,ih aa,show 2*(n+1)=2*n+1+1 by omega,List.take_succ_eq_append_getElem aa,List.take_succ_eq_append_getElem aa,List.append_assoc]
    congr 1
    rw [List.flatMap_cons,List.flatMap_nil,List.append_nil,yV aa,Option.getD_some]
    simp only [eE,if_true,lx (show 2*n<d.length by omega),lx (show 2*n+1<d.length by omega)]
    have a:=d[2*n].toNat_lt
    have b:=d[2*n+1].toNat_lt
    rw [show (d[2*n].toNat+256*d[2*n+1].toNat)%256=d[2*n].toNat by omega,show (d[2*n].toNat+256*d[2*n+1].toNat) / 256=d[2*n+1].toNat by omega]
    simp
  rw [key _ aa,List.take_of_length_le aa]
theorem tJ (w:Bool):0<c8 w:=by unfold c8;split<;>omega
theorem VW {d:List UInt8} {coding ch:Nat} (hch:1≤ch) (hev:bd coding=true→d.length%2=0):oG (fA d coding ch) coding ch=d:=by
 have hr:=Dj (bd coding) d
 have hU:(fA d coding ch).map (iA (bd coding))=cg (gQ coding) ch (c8 (bd coding)) (dy (bd coding) d):=by
  unfold fA
  rw [List.map_map]
  conv=>rhs;rw [←List.map_id (cg (gQ coding) ch (c8 (bd coding)) (dy (bd coding) d))]
  refine List.map_congr_left fun u hu=>Xu _ ?_
  exact zA (tJ _) _ _ rfl hr u hu
 have hl:(fA d coding ch).length=(dy (bd coding) d).length:=by rw [fA,List.length_map,sL]
 unfold oG
 rw [hU,hl]
 conv=>rhs;rw [←Ut (bd coding) d hev]
 refine Di fun i hi=>?_
 rw [WR hr (tJ _) hch hi,List.getElem?_eq_getElem hi,Option.getD_some]
def fits (w:Bool) (x:Int):Prop := -32768≤x∧x≤32767∧(w=false→x%256=0)
theorem XH {w:Bool} {x:Int} (h:fits w x):dS w (iA w x)=x:=by
 obtain ⟨h1,h2,h3⟩:=h
 unfold iA dS
 cases w with
 | true =>
  simp only [if_true]
  split<;>omega
 | false =>
  have:=h3 rfl
  simp only [Bool.false_eq_true,if_false]
  omega
theorem Us (w:Bool) (R:List Nat) (h:∀r∈R,r<c8 w):dy w (R.flatMap (eE w))=R:=by
 cases w with
 | false =>
  have e:R.flatMap (eE false)=R.map UInt8.ofNat:=by
   induction R with
   | nil=>rfl
   | cons r R ih=>rw [List.flatMap_cons,ih (fun x hx=>h x (by simp [hx]))];simp [eE]
  refine List.ext_getElem? fun i=>?_
  by_cases hi:i<R.length
  ·rw [yU (by rw [e];simpa using hi),e]
   have hb:R[i]<256:=h _ (List.getElem_mem hi)
   simp only [at8,List.getElem?_map,List.getElem?_eq_getElem hi,Option.map_some,Option.getD_some]
   rw [bW hb]
  ·rw [List.getElem?_eq_none (by rw [qk,if_neg ae,e];simp;omega),List.getElem?_eq_none aa]
 | true =>
  have hlen:(R.flatMap (eE true)).length=2*R.length:=by
   clear h
   induction R with
   | nil=>rfl
   | cons r R ih=>rw [List.flatMap_cons,List.length_append,ih];simp [eE];omega
  have hat:∀(R:List Nat) (i:Nat) (hi:i<R.length),R[i]<65536→at8 (R.flatMap (eE true)) (2*i)=R[i]%256∧at8 (R.flatMap (eE true)) (2*i+1)=R[i] / 256:=by
   intro R
   induction R with
   | nil=>intro i hi;simp at hi
   | cons r R ih =>
    intro i hi hb
    have e:(r::R).flatMap (eE true)=UInt8.ofNat (r%256)::UInt8.ofNat (r / 256)::R.flatMap (eE true):=rfl
    cases i with
    | zero =>
     simp only [List.getElem_cons_zero] at hb ⊢
     rw [e]
     simp only [at8,Nat.mul_zero,List.getElem?_cons_zero,Option.getD_some,Nat.zero_add,List.getElem?_cons_succ]
     rw [bW aa,bW aa]
     exact ⟨rfl,rfl⟩
    | succ i =>
     have:=ih i (by simpa using hi) (by simpa using hb)
     rw [e]
     simp only [at8,show 2*(i+1)=2*i+1+1 by omega,List.getElem?_cons_succ,List.getElem_cons_succ] at this ⊢
     exact this
  refine List.ext_getElem? fun i=>?_
  by_cases hi:i<R.length
  ·rw [yV aa,List.getElem?_eq_getElem hi]
   have hb:R[i]<65536:=h _ (List.getElem_mem hi)
   obtain ⟨a,b⟩:=hat R i hi hb
   rw [a,b]
   congr 1
   omega
  ·rw [List.getElem?_eq_none (by rw [qk,if_pos rfl];omega),List.getElem?_eq_none aa]
theorem Wb {l:List Int} {coding ch:Nat} (hch:1≤ch) (h:∀x∈l,fits (bd coding) x):fA (oG l coding ch) coding ch=l:=by
 have hU:=Xy (bd coding) l
 obtain ⟨U,xt⟩:∃U,U=l.map (iA (bd coding)):=⟨_,rfl⟩
 have Bs:U.length=l.length:=by rw [xt,List.length_map]
 have e:oG l coding ch=((List.range U.length).map (l6 (gQ coding) ch (c8 (bd coding)) U)).flatMap (eE (bd coding)):=by
  unfold oG
  rw [List.flatMap_map,Bs,xt]
 rw [←xt] at hU
 unfold fA
 rw [e,Us _ _ (by
  intro r hr
  obtain ⟨i,_,rfl⟩:=List.mem_map.1 hr
  exact WQ (tJ _) hU i),Ls (tJ _) hch U hU _ (Nat.le_refl _),List.take_length,xt,List.map_map]
 conv=>rhs;rw [←List.map_id l]
 exact List.map_congr_left fun x hx=>XH (h x hx)
theorem KI {d:List UInt8} {coding ch:Nat}:∀x∈fA d coding ch, -32768≤x∧x≤32767:=by
 intro x hx
 obtain ⟨u,hu,rfl⟩:=List.mem_map.1 hx
 have hb:=zA (tJ (bd coding)) _ _ rfl (Dj (bd coding) d) u hu
 unfold dS
 unfold c8 at hb
 generalize bd coding=w at hb ⊢
 cases w with
 | true=>simp only [if_true] at hb ⊢;split<;>omega
 | false=>simp only [Bool.false_eq_true,if_false] at hb ⊢;omega
def Bh (rate ch coding:Nat):List UInt8:=[UInt8.ofNat (rate / 256),UInt8.ofNat (rate%256),UInt8.ofNat ch,UInt8.ofNat coding]
def KG (rate ch coding:Nat) (l:List Int):List a8:=[(70,Bh rate ch coding),(68,oG l coding ch)]
def vB (rate ch coding:Nat) (l:List Int) (ns:List dC):List UInt8:=[83,78,68,49]++((oS (ns.length+2) 0 ns (KG rate ch coding l)).flatMap lV++[0])
structure zS (v r c s:ah):Prop where
 kind:v.kind=4
 names:v.names=[vr,vo,vt]
 rk:r.kind=1
 ck:c.kind=1
 sk:s.kind=2
 r0:0≤r.num∧r.num≤65535
 c0:1≤c.num∧c.num≤2
 s0:s.bytes.length%(2*c.num.toNat)=0
instance (v r c s:ah):Decidable (zS v r c s):=decidable_of_iff (v.kind=4∧v.names=[vr,vo,vt]∧r.kind=1∧c.kind=1∧s.kind=2∧(0≤r.num∧r.num≤65535)∧(1≤c.num∧c.num≤2)∧s.bytes.length%(2*c.num.toNat)=0) ⟨fun ⟨a,b,c,d,e,f,g,h⟩=>⟨a,b,c,d,e,f,g,h⟩,fun ⟨a,b,c,d,e,f,g,h⟩=>⟨a,b,c,d,e,f,g,h⟩⟩
def sE (v:ah):Option (Nat×Nat×List UInt8):=match v.parts with
 | [r,c,s]=>if zS v r c s then some (r.num.toNat,c.num.toNat,s.bytes) else none
 | _=>none
noncomputable def vz (v:ah) (b:List UInt8):Option (List UInt8):=match sE v,vA b with
 | some (rate,ch,s),some (coding,ns)=>if (vB rate ch coding (fA s 1 ch) ns).length≤1000∧eo (vB rate ch coding (fA s 1 ch) ns)=some (v,b) then some (vB rate ch coding (fA s 1 ch) ns) else none
 | _,_=>none
theorem A6 {cs:List a8} {f d:List UInt8} (h:oH cs=some (f,d)):cs.filter bZ=[(70,f),(68,d)]:=by
 unfold oH at h
 split at h
 ·rename_i x y hf
  split at h
  ·rename_i hk
   cases h
   obtain ⟨x1,x2⟩:=x
   obtain ⟨y1,y2⟩:=y
   obtain ⟨h1,h2⟩:=hk
   dsimp only at h1 h2
   subst h1 h2
   exact hf
  ·cases h
 ·cases h
theorem TW {cs:List a8} {f d:List UInt8} (h:cs.filter bZ=[(70,f),(68,d)]):oH cs=some (f,d):=by
 unfold oH
 rw [h]
 simp
structure Mx (b:List UInt8) (cs:List a8) (f d:List UInt8) (x:nv):Prop where
 gJ:la b=some cs
 bytes:b=[83,78,68,49]++(cs.flatMap lV++[0])
 ok:∀c∈cs,wG c
 two:cs.filter bZ=[(70,f),(68,d)]
 xh:rj f d
 eq:x=DT f d (dq 0 cs)
theorem DS {b:List UInt8} {x:nv} (h:ko b=some x):∃cs f d,Mx b cs f d x:=by
 unfold ko at h
 split at h
 ·cases h
 ·rename_i cs hc
  unfold nf at h
  split at h
  ·cases h
  ·rename_i f d hp
   split at h
   ·rename_i hk
    cases h
    refine ⟨cs,f,d,hc,?_,?_,A6 hp,hk,rfl⟩
    all_goals
     unfold la at hc
     split at hc
     ·rename_i h4
      obtain ⟨h1,h2⟩:=wH _ _ _ (Nat.le_refl _) hc
      first
       | exact h2
       | (conv=>lhs;rw [←List.take_append_drop 4 b,h4,h1])
     ·cases hc
   ·cases h
theorem Ps {f:List UInt8} (h:f.length=4):Bh (256*at8 f 0+at8 f 1) (at8 f 2) (at8 f 3)=f:=by
 match f,h with
 | [a,b,c,d],_ =>
  have ha:=a.toNat_lt
  have hb:=b.toNat_lt
  simp only [Bh,at8,List.getElem?_cons_zero,List.getElem?_cons_succ,Option.getD_some]
  rw [show (256*a.toNat+b.toNat) / 256=a.toNat by omega,show (256*a.toNat+b.toNat)%256=b.toNat by omega]
  simp
theorem yv {cs:List a8} {x y:a8} (h:cs.filter bZ=[x,y]):(dq 0 cs).length+2=cs.length:=by
 have:=CR cs 0
 rw [h] at this
 exact this
theorem Tn {cs:List a8} {x y:a8} (h:cs.filter bZ=[x,y]) (hok:∀c∈cs,wG c):oe (dq 0 cs).length (-1) (dq 0 cs)=true:=by
 have hc:=yv h
 refine Jg (CQ cs 0) fun n hn=>?_
 obtain ⟨h1,h2,h3,h4⟩:=rX cs 0 n hn
 obtain ⟨h5,h6,_⟩:=hok _ h3
 exact ⟨aa,aa,h4,h5,h6⟩
theorem Pf {l:List a8} {c:a8} (h:c∈l):3+c.2.length≤(l.flatMap lV).length:=by
 obtain ⟨s,t,rfl⟩:=List.append_of_mem h
 simp only [List.flatMap_append,List.flatMap_cons,List.length_append,JL]
 omega
theorem Ba (l:List a8):3*l.length≤(l.flatMap lV).length:=by
 induction l with
 | nil=>simp
 | cons c l ih=>simp only [List.flatMap_cons,List.length_append,JL,List.length_cons];omega
theorem DU {b:List UInt8} {v:ah} {r:List UInt8} (h:eo b=some (v,r)):∃x,ko b=some x∧(bC v).1=0∧v=l4 x.rate x.ch (gh x.fy)∧r=iy x.coding x.notes:=by
 unfold eo at h
 split at h
 ·cases h
 ·rename_i x hx
  unfold qu at h
  split at h
  ·cases h
  ·rename_i hv
   cases h
   exact ⟨x,hx,Decidable.not_not.1 hv,rfl,rfl⟩
theorem GA {n s c:Nat} (h:n%((s%2+1)*c)=0) (hs:s%2=1):n%2=0:=by
 rw [hs] at h
 obtain ⟨k,hk⟩:=Nat.dvd_of_mod_eq_zero h
 rw [hk,show (1+1)*c*k=2*(c*k) by rw [Nat.mul_assoc]]
 omega
theorem KH {b:List UInt8} {v:ah} {r:List UInt8} (hl:b.length≤1000) (h:eo b=some (v,r)):∃x,ko b=some x∧vA r=some (x.coding,x.notes)∧x.coding<4:=by
 obtain ⟨x,hx,_,_,rfl⟩:=DU h
 obtain ⟨cs,f,d,S⟩:=DS hx
 refine ⟨x,hx,?_,?_⟩
 ·have j3:=yv S.two
  have hb:=congrArg List.length S.bytes
  have cS:=Ba cs
  simp only [List.length_append,List.length_cons,List.length_nil] at hb
  rw [S.eq]
  refine VY S.xh.2.2.1 (by show (dq 0 cs).length≤1000;omega) (Tn S.two S.ok) fun n hn=>?_
  have:=(S.ok _ (rX cs 0 n hn).2.2.1).2.2
  omega
 ·rw [S.eq]
  exact S.xh.2.2.1
theorem Wd {l:List Int} {ch:Nat} (hch:1≤ch) (h:∀x∈l, -32768≤x∧x≤32767):fA (gh l) 1 ch=l:=by
 rw [←VV l ch]
 exact Wb hch fun x hx=>⟨(h x hx).1,(h x hx).2,fun h=>by cases h⟩
theorem V8 {rate ch:Nat} {b:List UInt8} (h1:rate≤65535) (h2:1≤ch∧ch≤2) (h3:b.length%(2*ch)=0):sE (l4 rate ch b)=some (rate,ch,b):=by
 unfold sE
 show (if zS (l4 rate ch b) (yz rate) (yz ch) (E6 b) then _ else _)=_
 rw [if_pos]
 ·simp
 ·exact ⟨rfl,rfl,rfl,rfl,rfl,by show (0:Int)≤rate∧(rate:Int)≤65535;omega,by show (1:Int)≤ch∧(ch:Int)≤2;omega,by show b.length%(2*(ch:Int).toNat)=0;simpa using h3⟩
theorem We {b:List UInt8} {v:ah} {r:List UInt8} (hl:b.length≤1000) (h:eo b=some (v,r)):vz v r=some b:=by
 obtain ⟨x,hx,aL,hc4⟩:=KH hl h
 obtain ⟨x',p6,p5,hv,hr⟩:=DU h
 rw [hx] at p6
 cases p6
 obtain ⟨cs,f,d,S⟩:=DS hx
 obtain ⟨g1,g2,g3,g4⟩:=S.xh
 have b0:at8 f 0<256:=UInt8.toNat_lt _
 have b1:at8 f 1<256:=UInt8.toNat_lt _
 have pY:x.fy=fA d (at8 f 3) (at8 f 2):=by rw [S.eq];rfl
 have hch:x.ch=at8 f 2:=by rw [S.eq];rfl
 have Ql:x.coding=at8 f 3:=by rw [S.eq];rfl
 have hra:x.rate=256*at8 f 0+at8 f 1:=by rw [S.eq];rfl
 have hno:x.notes=dq 0 cs:=by rw [S.eq];rfl
 have hev:bd (at8 f 3)=true→d.length%2=0:=fun hw=>GA g4 (by simpa [bd] using hw)
 have hdiv:(gh x.fy).length%(2*x.ch)=0:=by
  rw [zo,hch,pY,fA,List.length_map,sL,qk]
  obtain ⟨k,hk⟩:=Nat.dvd_of_mod_eq_zero g4
  rcases Nat.mod_two_eq_zero_or_one (at8 f 3) with h0|h0
  ·rw [h0,Nat.zero_add,Nat.one_mul] at hk
   rw [if_neg (by simp [bd,h0]),hk,←Nat.mul_assoc]
   exact Nat.mul_mod_right ..
  ·rw [h0] at hk
   rw [if_pos (by simp [bd,h0]),hk,Nat.mul_assoc,Nat.mul_div_cancel_left _ aa,←Nat.mul_assoc]
   exact Nat.mul_mod_right ..
 have hsh:sE v=some (x.rate,x.ch,gh x.fy):=by
  rw [hv]
  exact V8 aa aa hdiv
 have hw:vB x.rate x.ch x.coding (fA (gh x.fy) 1 x.ch) x.notes=b:=by
  rw [Wd aa (by rw [pY];exact KI)]
  unfold vB KG
  rw [hra,hch,Ql,pY,hno,Ps g1,VW aa hev,yv S.two]
  conv=>rhs;rw [S.bytes]
  have:=LU cs 0
  rw [S.two] at this
  rw [this]
 unfold vz
 rw [hsh,aL]
 simp only
 rw [hw,if_pos ⟨hl,h⟩]
section
variable {V W:World}
theorem RV (hV:Sub V W) (c:lr):aj Tryz.prog 222 [.agg (tq c).toArray].toArray W fun v w'=>v=.bool (decide (c.1=68))∧Rel W V [] V w':=by
 have H:=Rel.start hV
 refine eV Tryz.func222 6 [0,1,2] ?_
 refine wk ?_
 refine H.nA ?_;clear H;intro w b1 H
 refine wk ?_
 refine ⟨congrArg Value.bool (decide_eq_decide.2 ⟨fun h=>?_,fun h=>?_⟩),H.sx⟩
 ·apply UInt8.toNat_inj.1
  show c.1.toNat=68
  omega
 ·rw [h]
  rfl
theorem Ol (hV:Sub V W) {s:Sl} {l:List lr} (hs:aw tq V s l) (hl:l.length≤1000000) {i:Nat} (hi:i<l.length) (h1:l[i].1=68) (h2:∀k,k<i→(h:k<l.length)→l[k].1≠68) :
  aj Tryz.prog 221 [s.v,.func (.func 222) #[] #[]].toArray W fun v w'=>v=iv i∧Rel W V [] V w':=by
 have H:=Rel.start hV
 have hlen:=hs.len
 refine eV Tryz.func221 19 [0,1,4,5,7,8,9,16] ?_
 refine wk ?_
 refine aK (S:=Nat) ad [0,1,7] (fun k=>[(8,iv k)]) (fun k w'=>k≤i∧Rel W V [] V w') (fun k _=>l.length - k) 0 ?_
 conv=>whnf
 refine ⟨sB,⟨aa,H⟩,?_⟩
 clear H
 rintro k w ⟨hk,H⟩
 have hlt:k<l.length:=aa
 obtain ⟨hp,hg⟩:=hs.get (n:=2) (fun _=>rfl) ag hlt
 have j2:=hg 0 _ rfl
 have hc1:=hg 1 _ rfl
 refine wk ?_
 refine (RV H.data l[k]).use ?_
 rintro q w ⟨rfl,K⟩
 (replace H:=H.aq K)
 by_cases he:k=i
 ·subst he
  rw [h1,decide_eq_true rfl]
  refine wk ?_
  exact H.sx
 ·rw [decide_eq_false (h2 k aa hlt)]
  refine wk ?_
  exact ⟨sB,k+1,sB,⟨aa,H.sx⟩,aa⟩
end
section
variable {V W:World}
theorem yB {g:FuncId} {cap:List Value} {a:Value} {bs:List UInt8} (h:∀V1 W1,Sub V1 W1→Sub V V1→aj Tryz.prog g (a::cap).toArray W1 fun v w'=>∃r:Sl,v=r.v∧Rel W1 V1 [.row r 5 1 (bs.flatMap ay)] V1 w'):nu V g cap a bs:=by
 intro V1 W1 h1 h2
 refine (h V1 W1 h2 h1).mono ?_
 rintro v w ⟨r,rfl,K⟩
 obtain ⟨V2,hV2,K,hr⟩:=Rel.aJ K (fun _=>rfl) ag
 exact ⟨V2,r,hV2,rfl,hr,K⟩
end
theorem GP {α:Type} {f:α→List UInt8} {m:Nat}:∀ {l:List α},(∀x∈l,(f x).length≤m)→(l.flatMap f).length≤l.length*m
 | [],_=>by simp
 | x::l,h=>by
  have h1:=h x ae
  have h2:=GP (l:=l) fun y hy=>h y (by simp [hy])
  simp only [List.flatMap_cons,List.length_append,List.length_cons,Nat.succ_mul]
  omega
theorem ov {α:Type} {f:α→List UInt8} {m:Nat} {l:List α} (hl:l.length≤1099511627776) (h:∀x∈l,(f x).length≤m):(bj f l).length≤10+l.length*m:=by
 have:=cD (n:=l.length) aa aa
 have:=GP h
 rw [bj,List.length_append]
 omega
def Reads {α β:Type} (V:World) (g:FuncId) (cap:List Value) (s:Sl) (A:β→Value) (R:World→β→α→Prop) (p:Nat) (res:fV α):Prop :=
 ∀V1 W1,Sub V V1→Sub V1 W1→aj Tryz.prog g (s.v::iv p::cap).toArray W1 (EF A R W1 V1 res)
theorem I4 {α:Type} {one:Nat→fV α} {k p q:Nat} {ys:List α} {c i:Int} (h:dL one k p=.ok ys q) (hb:one q=.bad c i):∀n,dL one (k+1+n) p=.bad c i
 | 0=>by rw [Nat.add_zero,yo,h];simp only [hb]
 | n+1=>by
  rw [show k+1+(n+1)=(k+1+n)+1 by omega,yo,I4 h hb n]
theorem SP {α:Type} {one:Nat→fV α} {k p q r:Nat} {ys:List α} {y:α} (h:dL one k p=.ok ys q) (hb:one q=.ok y r):dL one (k+1) p=.ok (ys++[y]) r:=by
 rw [yo,h];simp only [hb]
abbrev jf:=dC×Sl
abbrev rY (p:jf):List Value:=[bv p.1.2.1,p.2.v,iv p.1.1]
abbrev zQ (V:World) (p:jf) (e:dC):Prop:=p.1=e∧ao V p.2 p.1.2.2
abbrev s5 (V:World) (s:Sl) (ns:List dC):Prop:=RL rY zQ V s ns
theorem s5.up {V V':World} {s:Sl} {ns:List dC} (h:s5 V s ns) (k:Sub V V'):s5 V' s ns:=by
 obtain ⟨ps,h1,h2⟩:=h
 exact ⟨ps,h1.up k,h2.up (fun _ _ _ _ hs h=>⟨h.1,h.2.up hs⟩) k⟩
theorem Pw.Tp {V:World} {ps:List jf} {ns:List dC} (h:Pw zQ V ps ns):ps.map (·.1)=ns:=by
 refine List.ext_getElem (by simp [h.len]) fun i h1 h2=>?_
 have h3:i<ps.length:=by simpa using h1
 rw [List.getElem_map]
 exact (h.all i _ _ (List.getElem?_eq_getElem h3) (List.getElem?_eq_getElem h2)).1
theorem aw.lv {V:World} {α:Type} {f:α→List Value} {s:Sl} {l:List α} (h:aw f V s l) {g g' g'':α→Value} (hf:∀x,f x=[g x,g' x,g'' x]) {i:Nat} (hi:i<l.length):Plain s.a∧V.cell? ⟨aN s.a,aI s.a+i*3,none⟩=some (g l[i])∧V.cell? ⟨aN s.a,aI s.a+i*3+1,none⟩=some (g' l[i])∧V.cell? ⟨aN s.a,aI s.a+i*3+2,none⟩=some (g'' l[i]):=by
 obtain ⟨h1,h2⟩:=h.get (n:=3) (fun x=>by rw [hf];rfl) aa hi
 exact ⟨h1,h2 0 _ (by rw [hf];rfl),h2 1 _ (by rw [hf];rfl),h2 2 _ (by rw [hf];rfl)⟩
section
variable {V W:World}
theorem A2 (hV:Sub V W) (c i:Int):aj Tryz.prog 143 [iv c,iv i].toArray W fun v w'=>v=gq c i∧Rel W V [] V w':=by
 have H:=Rel.start hV
 refine eV Tryz.func143 8 [0,1,4] ?_
 refine H.wg ?_;clear H;intro _ _ w H
 exact H.sx
theorem Je (p:jf) (h1:bI p.1.1) (h2:p.1.2.2.length≤1099511620000) (hx:ao V p.2 p.1.2.2):nu V 226 [] (.agg (rY p).toArray) (cV p.1):=yB fun V1 W1 hV dY=>by
 have H:=Rel.start hV
 have cL:=hx.up dY
 have hn:=cD h1.1 h1.2
 have hc:=qj (b:=p.1.2.2) aa
 refine eV Tryz.func226 16 [0,1,2] ?_
 refine wk ?_
 refine H.nA ?_;clear H;intro w b1 H
 refine wk ?_
 (first|refine Gf (id:=1) ad mixed [2,6,10] [0,1,3,4,5,7,8,9,2,6,10,11,12,13] [(2,[]),(6,[]),(10,[2]),(11,[2,6,10]),(12,[2,6,10,11])] ab ?_);intro w aG;replace H:=Rel.ext H aG.ext
 refine wk ?_
 refine ⟨?_,?_⟩
 ·refine wk ?_
  refine (eQ H.data h1).use ?_
  rintro v w ⟨r1,rfl,K⟩
  (replace H:=Rel.call H K)
  simp only [List.cons_append,List.nil_append] at H
  obtain ⟨V2,hV2,H,hr1⟩:=Rel.aJ H (fun _=>rfl) ag
  replace cL:=cL.up hV2
  try replace hr1:=hr1.up hV2
  try replace dn:=dn.up hV2
  try replace bB:=bB.up hV2
  refine wk ?_
  refine ⟨?_,?_⟩
  ·refine wk ?_
   refine H.nA ?_;clear H;intro w b9 H
   obtain ⟨V3,ar,H,ua⟩:=H.bJ
   have dn:ao V3 ⟨some ⟨b9,0,none⟩,1,1⟩ [p.1.2.1]:=bD.ia (l:=[p.1.2.1]) ua rfl
   replace cL:=cL.up ar
   try replace hr1:=hr1.up ar
   try replace dn:=dn.up ar
   try replace bB:=bB.up ar
   refine wk ?_
   refine wk ?_
   refine (q5 H.data cL aa).use ?_
   rintro v w ⟨r3,rfl,K⟩
   (replace H:=Rel.call H K)
   simp only [List.cons_append,List.nil_append] at H
   obtain ⟨V4,av,H,bB⟩:=Rel.aJ H (fun _=>rfl) ag
   replace cL:=cL.up av
   try replace hr1:=hr1.up av
   try replace dn:=dn.up av
   try replace bB:=bB.up av
   refine wk ?_
   refine H.nA ?_;clear H;intro w jV H
   obtain ⟨V5,aF,H,mB⟩:=H.bJ
   replace cL:=cL.up aF
   try replace hr1:=hr1.up aF
   try replace dn:=dn.up aF
   try replace bB:=bB.up aF
   refine wk ?_
   refine (tt (s:=⟨some ⟨jV,0,none⟩,3,3⟩) (hl:=[r1,⟨some ⟨b9,0,none⟩,1,1⟩,r3]) (ll:=[ax p.1.1,[p.1.2.1],cx p.1.2.2]) H.data ⟨rfl,Nat.le_refl _,mB.cells⟩ ⟨rfl,fun k x y hx hy=>?_⟩ ae ?_).use ?_
   ·match k,hx,hy with
    | 0,hx,hy=>cases hx;cases hy;exact hr1
    | 1,hx,hy=>cases hx;cases hy;exact dn
    | 2,hx,hy=>cases hx;cases hy;exact bB
    | k+3,hx,hy=>simp at hx
   ·simp only [List.flatten_cons,List.flatten_nil,List.length_append,List.length_cons,List.length_nil]
    omega
   rintro v w ⟨r,rfl,K⟩
   (replace H:=Rel.call H K)
   simp only [List.cons_append,List.nil_append] at H
   refine wk ?_
   refine ⟨r,rfl,?_⟩
   have e:cV p.1=[ax p.1.1,[p.1.2.1],cx p.1.2.2].flatten:=by simp [cV]
   rw [e]
   exact Rel.back H.sx
  ·refine wk ?_
   refine (q5 H.data cL aa).use ?_
   rintro v w ⟨r3,rfl,K⟩
   (replace H:=Rel.call H K)
   simp only [List.cons_append,List.nil_append] at H
   obtain ⟨V4,av,H,bB⟩:=Rel.aJ H (fun _=>rfl) ag
   replace cL:=cL.up av
   try replace hr1:=hr1.up av
   try replace dn:=dn.up av
   try replace bB:=bB.up av
   refine wk ?_
   refine wk ?_
   refine H.nA ?_;clear H;intro w b9 H
   obtain ⟨V3,ar,H,ua⟩:=H.bJ
   have dn:ao V3 ⟨some ⟨b9,0,none⟩,1,1⟩ [p.1.2.1]:=bD.ia (l:=[p.1.2.1]) ua rfl
   replace cL:=cL.up ar
   try replace hr1:=hr1.up ar
   try replace dn:=dn.up ar
   try replace bB:=bB.up ar
   refine wk ?_
   refine H.nA ?_;clear H;intro w jV H
   obtain ⟨V5,aF,H,mB⟩:=H.bJ
   replace cL:=cL.up aF
   try replace hr1:=hr1.up aF
   try replace dn:=dn.up aF
   try replace bB:=bB.up aF
   refine wk ?_
   refine (tt (s:=⟨some ⟨jV,0,none⟩,3,3⟩) (hl:=[r1,⟨some ⟨b9,0,none⟩,1,1⟩,r3]) (ll:=[ax p.1.1,[p.1.2.1],cx p.1.2.2]) H.data ⟨rfl,Nat.le_refl _,mB.cells⟩ ⟨rfl,fun k x y hx hy=>?_⟩ ae ?_).use ?_
   ·match k,hx,hy with
    | 0,hx,hy=>cases hx;cases hy;exact hr1
    | 1,hx,hy=>cases hx;cases hy;exact dn
    | 2,hx,hy=>cases hx;cases hy;exact bB
    | k+3,hx,hy=>simp at hx
   ·simp only [List.flatten_cons,List.flatten_nil,List.length_append,List.length_cons,List.length_nil]
    omega
   rintro v w ⟨r,rfl,K⟩
   (replace H:=Rel.call H K)
   simp only [List.cons_append,List.nil_append] at H
   refine wk ?_
   refine ⟨r,rfl,?_⟩
   have e:cV p.1=[ax p.1.1,[p.1.2.1],cx p.1.2.2].flatten:=by simp [cV]
   rw [e]
   exact Rel.back H.sx
 ·refine wk ?_
  refine H.nA ?_;clear H;intro w b9 H
  obtain ⟨V3,ar,H,ua⟩:=H.bJ
  have dn:ao V3 ⟨some ⟨b9,0,none⟩,1,1⟩ [p.1.2.1]:=bD.ia (l:=[p.1.2.1]) ua rfl
  replace cL:=cL.up ar
  try replace hr1:=hr1.up ar
  try replace dn:=dn.up ar
  try replace bB:=bB.up ar
  refine wk ?_
  refine wk ?_
  refine (eQ H.data h1).use ?_
  rintro v w ⟨r1,rfl,K⟩
  (replace H:=Rel.call H K)
  simp only [List.cons_append,List.nil_append] at H
  obtain ⟨V2,hV2,H,hr1⟩:=Rel.aJ H (fun _=>rfl) ag
  replace cL:=cL.up hV2
  try replace hr1:=hr1.up hV2
  try replace dn:=dn.up hV2
  try replace bB:=bB.up hV2
  refine wk ?_
  refine wk ?_
  refine (q5 H.data cL aa).use ?_
  rintro v w ⟨r3,rfl,K⟩
  (replace H:=Rel.call H K)
  simp only [List.cons_append,List.nil_append] at H
  obtain ⟨V4,av,H,bB⟩:=Rel.aJ H (fun _=>rfl) ag
  replace cL:=cL.up av
  try replace hr1:=hr1.up av
  try replace dn:=dn.up av
  try replace bB:=bB.up av
  refine wk ?_
  refine H.nA ?_;clear H;intro w jV H
  obtain ⟨V5,aF,H,mB⟩:=H.bJ
  replace cL:=cL.up aF
  try replace hr1:=hr1.up aF
  try replace dn:=dn.up aF
  try replace bB:=bB.up aF
  refine wk ?_
  refine (tt (s:=⟨some ⟨jV,0,none⟩,3,3⟩) (hl:=[r1,⟨some ⟨b9,0,none⟩,1,1⟩,r3]) (ll:=[ax p.1.1,[p.1.2.1],cx p.1.2.2]) H.data ⟨rfl,Nat.le_refl _,mB.cells⟩ ⟨rfl,fun k x y hx hy=>?_⟩ ae ?_).use ?_
  ·match k,hx,hy with
   | 0,hx,hy=>cases hx;cases hy;exact hr1
   | 1,hx,hy=>cases hx;cases hy;exact dn
   | 2,hx,hy=>cases hx;cases hy;exact bB
   | k+3,hx,hy=>simp at hx
  ·simp only [List.flatten_cons,List.flatten_nil,List.length_append,List.length_cons,List.length_nil]
   omega
  rintro v w ⟨r,rfl,K⟩
  (replace H:=Rel.call H K)
  simp only [List.cons_append,List.nil_append] at H
  refine wk ?_
  refine ⟨r,rfl,?_⟩
  have e:cV p.1=[ax p.1.1,[p.1.2.1],cx p.1.2.2].flatten:=by simp [cV]
  rw [e]
  exact Rel.back H.sx
theorem KE {V W:World} (hV:Sub V W) {s:Sl} {l:List jf} (hs:aw rY V s l) {g:FuncId} {cap:List Value} {enc:jf→List UInt8} (hone:∀x∈l,nu V g cap ((fun p=>.agg (rY p).toArray) x) (enc x)) (hll:l.length≤1099511627776) (hb:(bj enc l).length≤1099511627776) :
  aj Tryz.prog 225 [s.v,.func (.func g) #[] cap.toArray].toArray W fun v w'=>∃r:Sl,v=r.v∧Rel W V [.row r 5 1 ((bj enc l).flatMap ay)] V w':=by
 have H:=Rel.start hV
 have hlen:=hs.len
 rw [bj,List.length_append] at hb
 refine eV Tryz.func225 24 [0,1,4,5,7,11,12,13,14] ?_
 refine wk ?_
 rw [hlen]
 refine (eQ (n:=l.length) H.data (by constructor<;>omega)).use ?_
 rintro v w ⟨r0,rfl,K⟩
 replace H:=H.call K
 refine wk ?_
 refine aK (S:=Nat×Sl) ad [0,1,4,11,12] (fun k=>[(5,k.2.v),(13,iv k.1)]) (fun k w'=>k.1≤l.length∧∃V1,Sub V V1∧Rel W V [.row k.2 5 1 ((ax l.length++(l.take k.1).flatMap enc).flatMap ay)] V1 w') (fun k _=>l.length - k.1) (0,r0) ?_
 conv=>whnf
 refine ⟨sB,⟨aa,V,Sub.refl _,by simpa using H⟩,?_⟩
 clear H
 rintro ⟨k,r⟩ w ⟨hk,V1,hV1,H⟩
 dsimp only at hk H
 by_cases hlt:k<l.length
 rotate_left
 ·refine wk ?_
  rw [List.take_of_length_le aa] at H
  exact ⟨r,rfl,H.back⟩
 have hbl:=xf (enc:=enc) hlt
 obtain ⟨hp,lI,iI,Ic⟩:=(hs.up hV1).lv (g:=fun p:jf=>bv p.1.2.1) (g':=fun p:jf=>p.2.v) (g'':=fun p:jf=>iv p.1.1) (fun _=>rfl) hlt
 refine H.wg ?_;clear H;intro _ _ w H
 refine (hone l[k] (List.getElem_mem hlt) V1 w hV1 H.data).use ?_
 rintro v w ⟨V2,x,hV2,rfl,hx,K⟩
 replace H:=H.call K
 simp only [List.nil_append] at H
 refine wk ?_
 refine Rel.gn H (i:=1) rfl hx (by simp only [List.length_append];omega) ?_
 clear H
 intro rn w H
 rw [xe hlt] at H
 refine wk ?_
 exact ⟨sB,(k+1,rn),sB,⟨aa,V2,hV1.trans hV2,H.sx⟩,aa⟩
theorem U2 (hV:Sub V W) {coding:Nat} (hc:coding<4) {s:Sl} {ns:List dC} (hs:s5 V s ns) (hl:ns.length≤1000) (hb:∀n∈ns,bI n.1∧n.2.2.length≤65535) :
  aj Tryz.prog 146 [iv coding,s.v].toArray W fun v w'=>∃r:Sl,v=r.v∧Rel W V [.row r 5 1 ((iy coding ns).flatMap ay)] V w':=by
 have H:=Rel.start hV
 obtain ⟨ps,hps,hpw⟩:=hs
 have B9:=hpw.Tp
 have Zd:=hpw.len
 have Zj:=hps.len
 have hn:=cD (n:=(coding:Int)) aa aa
 have mL:bj (fun p:jf=>cV p.1) ps=bj cV ns:=by
  rw [←B9]
  simp only [bj,List.length_map,List.flatMap_map]
 have hpl:(bj cV ns).length≤70000000:=by
  have:=ov (f:=cV) (m:=65600) (l:=ns) aa fun x hx=>by
   obtain ⟨⟨a,b⟩,c⟩:=hb x hx
   have h1:=cD a b
   have h2:=qj (b:=x.2.2) aa
   simp only [cV,List.length_append,List.length_cons]
   omega
  have h3:=Nat.mul_le_mul_right 65600 hl
  omega
 refine eV Tryz.func146 17 [0,1,4,11] ?_
 by_cases h1:coding=1
 ·subst h1
  have uu:=cD (n:=1) aa aa
  by_cases h2:ns.length=0
  ·have hn0:ns=[]:=List.eq_nil_of_length_eq_zero h2
   have e:iy 1 ns=[]:=by rw [iy,if_pos ⟨rfl,hn0⟩]
   rw [e]
   refine wk ?_
   exact ⟨⟨none,0,0⟩,rfl,H.bw _ _⟩
  have e:iy 1 ns=ax 1++bj cV ns:=by
   rw [iy,if_neg]
   ·rfl
   ·rintro ⟨_,h⟩
    rw [h] at h2
    exact h2 rfl
  rw [e]
  refine wk ?_
  refine (eQ (n:=1) H.data (by constructor<;>omega)).use ?_
  rintro v w ⟨r1,rfl,K⟩
  (replace H:=Rel.call H K)
  simp only [List.append_nil] at H
  refine wk ?_
  refine (KE (l:=ps) (enc:=fun p:jf=>cV p.1) H.data hps (fun p hp=>?_) aa (by rw [mL];omega)).use ?_
  ·obtain ⟨i,hi,rfl⟩:=List.getElem_of_mem hp
   have hin:i<ns.length:=aa
   have:=hpw.all i _ _ (List.getElem?_eq_getElem hi) (List.getElem?_eq_getElem hin)
   obtain ⟨a,b⟩:=hb ps[i].1 (by rw [this.1];exact List.getElem_mem hin)
   exact Je _ a aa this.2
  rintro v w ⟨r2,rfl,K⟩
  (replace H:=Rel.call H K)
  simp only [List.cons_append,List.nil_append] at H
  refine wk ?_
  refine Rel.cQ H (i:=0) rfl (by rw [mL];omega) ?_
  clear H
  intro rn w H
  rw [mL] at H
  refine wk ?_
  exact ⟨rn,rfl,H⟩
 ·have e:iy coding ns=ax coding++bj cV ns:=by
   rw [iy,if_neg]
   rintro ⟨h,_⟩
   exact h1 h
  rw [e]
  refine wk ?_
  refine (eQ (n:=(coding:Int)) H.data (by constructor<;>omega)).use ?_
  rintro v w ⟨r1,rfl,K⟩
  (replace H:=Rel.call H K)
  simp only [List.append_nil] at H
  refine wk ?_
  refine (KE (l:=ps) (enc:=fun p:jf=>cV p.1) H.data hps (fun p hp=>?_) aa (by rw [mL];omega)).use ?_
  ·obtain ⟨i,hi,rfl⟩:=List.getElem_of_mem hp
   have hin:i<ns.length:=aa
   have:=hpw.all i _ _ (List.getElem?_eq_getElem hi) (List.getElem?_eq_getElem hin)
   obtain ⟨a,b⟩:=hb ps[i].1 (by rw [this.1];exact List.getElem_mem hin)
   exact Je _ a aa this.2
  rintro v w ⟨r2,rfl,K⟩
  (replace H:=Rel.call H K)
  simp only [List.cons_append,List.nil_append] at H
  refine wk ?_
  refine Rel.cQ H (i:=0) rfl (by rw [mL];omega) ?_
  clear H
  intro rn w H
  rw [mL] at H
  refine wk ?_
  exact ⟨rn,rfl,H⟩
theorem uL (c:a8):bZ c=true↔c.1.toNat=70∨c.1.toNat=68:=by
 have h1:c.1=70↔c.1.toNat=70:=⟨fun h=>by rw [h];rfl,fun h=>UInt8.toNat_inj.1 (by rw [h];rfl)⟩
 have h2:c.1=68↔c.1.toNat=68:=⟨fun h=>by rw [h];rfl,fun h=>UInt8.toNat_inj.1 (by rw [h];rfl)⟩
 simp only [bZ,Bool.or_eq_true,beq_iff_eq,h1,h2]
end
abbrev ry (rate ch coding:Nat) (rs rn:Sl):List Value:=[iv rate,iv ch,iv coding,rs.v,rn.v]
def fmtS (a:Nat×Nat×Nat) (c:a8):Nat×Nat×Nat:=if c.1=70 then (256*at8 c.2 0+at8 c.2 1,at8 c.2 2,at8 c.2 3) else a
def mw (l:List a8):Nat×Nat×Nat:=l.foldl fmtS (0,0,0)
theorem Bc (l:List a8) (c:a8):mw (l++[c])=fmtS (mw l) c:=by simp [mw,List.foldl_append]
theorem Pl (l:List a8):mw l=mw (l.filter bZ):=by
 have:∀(l:List a8) (a:Nat×Nat×Nat),l.foldl fmtS a=(l.filter bZ).foldl fmtS a:=by
  intro l
  induction l with
  | nil=>intro a;rfl
  | cons c l ih =>
   intro a
   by_cases h:bZ c=true
   ·rw [List.filter_cons_of_pos h,List.foldl_cons,List.foldl_cons,ih]
   ·rw [List.filter_cons_of_neg h,List.foldl_cons,ih]
    congr 1
    unfold fmtS
    rw [if_neg]
    intro h1
    exact h ((uL c).2 (.inl (by rw [h1];rfl)))
 exact this l _
theorem KK {α:Type} {l:List α} {k:Nat} (h:k<l.length):l.take (k+1)=l.take k++[l[k]]:=List.take_succ_eq_append_getElem h
def lY (l:List a8):List UInt8:=(l.filter bZ).map (·.1)
theorem DN (l:List a8) (c:a8):lY (l++[c])=lY l++(if bZ c=true then [c.1] else []):=by
 unfold lY
 rw [List.filter_append,List.map_append]
 congr 1
 split
 ·rename_i h;rw [List.filter_cons_of_pos h];rfl
 ·rename_i h;rw [List.filter_cons_of_neg h];rfl
theorem VA {cs:List a8} (h:lY cs=[70,68]):∃f d,cs.filter bZ=[(70,f),(68,d)]:=by
 unfold lY at h
 match hf:cs.filter bZ,h with
 | [(a,f),(b,d)],h =>
  simp only [List.map_cons,List.map_nil,List.cons.injEq,and_true] at h
  obtain ⟨rfl,rfl⟩:=h
  exact ⟨f,d,rfl⟩
theorem TV {cs:List a8} (h:lY cs≠[70,68]):oH cs=none:=by
 cases hp:oH cs with
 | none=>rfl
 | some x =>
  obtain ⟨f,d⟩:=x
  exact absurd (by unfold lY;rw [A6 hp];rfl) h
theorem Om {cs:List a8} {f d:List UInt8} (h:cs.filter bZ=[(70,f),(68,d)]):∃i,∃hi:i<cs.length,cs[i]=(68,d)∧∀k,k<i→(hk:k<cs.length)→cs[k].1≠68:=by
 have hm:((68,d):a8)∈cs:=(List.mem_filter.1 (by rw [h];simp:((68,d):a8)∈cs.filter bZ)).1
 have hlt:cs.findIdx (fun c=>c.1 == 68)<cs.length:=List.findIdx_lt_length_of_exists ⟨_,hm,rfl⟩
 refine ⟨_,hlt,?_,fun k hk eN=>?_⟩
 ·have h1:cs[cs.findIdx (fun c=>c.1 == 68)].1=68:=by simpa using List.findIdx_getElem (w:=hlt)
  have h2:cs[cs.findIdx (fun c=>c.1 == 68)]∈cs.filter bZ:=List.mem_filter.2 ⟨List.getElem_mem hlt,by rw [uL];right;rw [h1];rfl⟩
  rw [h] at h2
  simp only [List.mem_cons,List.not_mem_nil,or_false] at h2
  rcases h2 with h2|h2
  ·rw [h2] at h1
   cases h1
  ·exact h2
 ·have:=List.not_of_lt_findIdx hk
  simpa using this
theorem F3 {cs:List a8} {c:a8} (h:c∈cs.filter bZ):c.2.length≤(cs.flatMap lV).length:=by
 have:=Pf (List.mem_filter.1 h).1
 omega
structure Mj (W V:World) (res:Option nv) (v:Value) (w':World):Prop where
 ex:∃(V':World) (rs rn:Sl),Sub V V'∧Rel W V [] V' w'∧(match res with
  | none=>v=.tuple #[.agg (ry 0 0 0 ⟨none,0,0⟩ ⟨none,0,0⟩).toArray,.bool false]
  | some x=>v=.tuple #[.agg (ry x.rate x.ch x.coding rs rn).toArray,.bool true]∧aw ct V' rs x.fy∧s5 V' rn x.notes)
theorem OI:Utf8.encode (wr .i32 ((70:UInt8).toNat:Int))=⟨[70].toArray⟩:=by decide +kernel
theorem OH:Utf8.encode (wr .i32 ((68:UInt8).toNat:Int))=⟨[68].toArray⟩:=by decide +kernel
theorem OG:runesBytes [70,68]=⟨[70,68].toArray⟩:=by decide +kernel
theorem Fm {P:Program} {w:World} {s d:TypeId} (hs:(P.underlying s).isSome=true) (hd:P.underlying d=some .string) {k:IntKind} {n:Int} {l:List UInt8} (hn:Utf8.encode n=⟨l.toArray⟩) {G:Value→World→Prop} (hk:G (str l) w):aH P (convert s d (.int k n)) w G :=
 Rel.AA hs hd (by rw [hn];exact hk)
section
variable {V W:World}
theorem UK (hV:Sub V W) {s:Sl} {l:List UInt8} (hs:ao V s l) (hl:l.length≤1000):aj Tryz.prog 144 [s.v].toArray W (Mj W V (ko l)):=by
 have H:=Rel.start hV
 have hlen:=hs.len
 refine eV Tryz.func144 129 [0,2,3,4,5,6,7,8,9,10,17,19,20,21,22,27,36,41,73,103,121] ?_
 refine wk ?_
 refine H.nA ?_;clear H;intro w b2 H
 refine wk ?_
 refine (UA H.data hs aa).use ?_
 rintro v w ⟨V2,r,hV2,K,hres⟩
 (replace H:=H.aq K)
 cases hc:la l with
 | none =>
  rw [hc] at hres
  dsimp only at hres
  subst hres
  have e:ko l=none:=by rw [ko,hc]
  rw [e]
  refine H.wg ?_;clear H;intro w H
  exact ⟨V2,⟨none,0,0⟩,⟨none,0,0⟩,hV2,H.sx,rfl⟩
 | some cs =>
  rw [hc] at hres
  obtain ⟨rfl,ks,rM,xQ⟩:=hres
  have e:ko l=nf cs:=by rw [ko,hc]
  rw [e]
  have e6:=xQ.len
  have hrl:=rM.len
  have hcl:cs.length≤1000∧∀c∈cs,wG c:=by
   unfold la at hc
   split at hc
   ·obtain ⟨h1,h2⟩:=wH _ _ _ (Nat.le_refl _) hc
    have h3:=congrArg List.length h1
    have h4:=Ba cs
    simp only [List.length_append,List.length_drop,List.length_cons,List.length_nil] at h3
    exact ⟨aa,h2⟩
   ·cases hc
  refine wk ?_
  refine H.nA ?_;clear H;intro w b6 H
  refine wk ?_
  replace H:=H.bw 281 3
  refine aK (S:=Nat×Sl×List jf) ad [0,2,4,5,6,10,17,19,20,103,121] (fun k=>[(7,str (lY (cs.take k.1))),(21,iv k.1)]) (fun k w'=>k.1≤cs.length∧(∀c∈cs.take k.1,c.1=70→c.2.length=4)∧Pw zQ V2 k.2.2 (dq 0 (cs.take k.1))∧Rel W V [.row k.2.1 281 3 (k.2.2.flatMap rY),.al b6 (ry (mw (cs.take k.1)).1 (mw (cs.take k.1)).2.1 (mw (cs.take k.1)).2.2 ⟨none,0,0⟩ k.2.1) 174,.al b2 (ry 0 0 0 ⟨none,0,0⟩ ⟨none,0,0⟩) 174] V2 w') (fun k _=>cs.length - k.1) (0,⟨none,0,0⟩,[]) ?_
  conv=>whnf
  refine ⟨sB,⟨aa,ae,Pw.nil,H⟩,?_⟩
  clear H
  rintro ⟨k,rn,os⟩ w ⟨hk,h4,hpw,H⟩
  dsimp only at hk h4 hpw H
  have gx:=hpw.len
  have hnl:=CR (cs.take k) 0
  rw [List.length_take] at hnl
  have dx:(lY (cs.take k)).length≤1000:=by
   have:=List.length_filter_le bZ (cs.take k)
   rw [List.length_take] at this
   unfold lY
   rw [List.length_map]
   omega
  by_cases hlt:k<cs.length
  ·have jw:k<ks.length:=aa
   obtain ⟨hp,lI,iI⟩:=rM.dW (g:=fun x:lr=>bv x.1) (g':=fun x:lr=>x.2.v) (fun _=>rfl) jw
   have pG:=xQ.all k _ _ (List.getElem?_eq_getElem jw) (List.getElem?_eq_getElem hlt)
   have Qm:=hcl.2 _ (List.getElem_mem hlt)
   have t1:=KK hlt
   generalize ks[k]=x at lI iI pG
   obtain ⟨xn,xs⟩:=x
   obtain ⟨hid,ik⟩:=pG
   dsimp only at hid ik lI iI
   obtain ⟨c,dZ⟩:∃c,c=cs[k]:=⟨_,rfl⟩
   rw [←dZ] at hid ik Qm t1
   have hxl:=ik.len
   by_cases kH:c.1=70
   ·have mG:bZ c=true:=(uL c).2 (.inl (by rw [kH];rfl))
    rw [hid,kH] at lI
    by_cases hl4:c.2.length=4
    rotate_left
    ·have:nf cs=none:=by
      unfold nf
      cases Ca:oH cs with
      | none=>rfl
      | some y =>
       obtain ⟨f,d⟩:=y
       have cS:=A6 Ca
       have hm:c∈cs.filter bZ:=List.mem_filter.2 ⟨dZ ▸ List.getElem_mem hlt,mG⟩
       rw [cS] at hm
       simp only [List.mem_cons,List.not_mem_nil,or_false] at hm
       rcases hm with hm|hm
       ·rw [hm] at hl4
        simp only
        rw [if_neg]
        exact fun h=>hl4 h.1
       ·rw [hm] at kH
        cases kH
     rw [this]
     refine H.wg ?_;clear H;intro _ _ _ w H
     exact ⟨V2,⟨none,0,0⟩,⟨none,0,0⟩,hV2,H.sx,rfl⟩
    obtain ⟨p0,d0⟩:=ik.jk (i:=0) aa
    obtain ⟨_,d1⟩:=ik.jk (i:=1) aa
    obtain ⟨_,d2⟩:=ik.jk (i:=2) aa
    obtain ⟨_,d3⟩:=ik.jk (i:=3) aa
    have g0:at8 c.2 0<256:=UInt8.toNat_lt _
    have g1:at8 c.2 1<256:=UInt8.toNat_lt _
    have g2:at8 c.2 2<256:=UInt8.toNat_lt _
    have g3:at8 c.2 3<256:=UInt8.toNat_lt _
    have fZ:=qg g0 g1
    refine H.wg ?_;clear H;intro _ _ w H
    (first|refine dV 14 [] [0,1,2,3,4,5,6,7,8,9,10,11,12,13,14,15,16,17,18,19,20,21,22,23,24] H ?_|refine dV 22 [4] [0,1,2,3,5,6,7,4,8,9,10] H ?_);clear H;intro w H
    refine wk ?_
    rw [k9]
    refine H.wg ?_;clear H;intro w H
    rw [fZ] at H
    refine Fm ab Tryz.underlying9 OI ?_
    conv=>whnf
    refine And.intro (by simp only [List.length_cons,List.length_nil];omega) ?_
    refine wk ?_
    refine ⟨sB,(k+1,rn,os),?_,⟨by dsimp only;omega,?_,?_,?_⟩,by dsimp only;omega⟩
    ·refine ⟨?_,rfl,trivial⟩
     rw [t1,DN,if_pos mG,kH]
     rfl
    ·dsimp only
     rw [t1]
     intro y hy mP
     rcases List.mem_append.1 hy with hy|hy
     ·exact h4 y hy mP
     ·rw [List.mem_singleton.1 hy];exact hl4
    ·dsimp only
     rw [t1,uZ,if_pos mG,List.append_nil]
     exact hpw
    ·dsimp only
     rw [t1,Bc]
     unfold fmtS
     rw [if_pos kH]
     exact H.sx
   by_cases h68:c.1=68
   ·have mG:bZ c=true:=(uL c).2 (.inr (by rw [h68];rfl))
    rw [hid,h68] at lI
    refine H.wg ?_;clear H;intro _ _ w H
    refine Fm ab Tryz.underlying9 OH ?_
    conv=>whnf
    refine And.intro (by simp only [List.length_cons,List.length_nil];omega) ?_
    refine wk ?_
    refine ⟨sB,(k+1,rn,os),?_,⟨by dsimp only;omega,?_,?_,?_⟩,by dsimp only;omega⟩
    ·refine ⟨?_,rfl,trivial⟩
     rw [t1,DN,if_pos mG,h68]
     rfl
    ·dsimp only
     rw [t1]
     intro y hy mP
     rcases List.mem_append.1 hy with hy|hy
     ·exact h4 y hy mP
     ·rw [List.mem_singleton.1 hy] at mP;exact absurd mP kH
    ·dsimp only
     rw [t1,uZ,if_pos mG,List.append_nil]
     exact hpw
    ·dsimp only
     rw [t1,Bc]
     unfold fmtS
     rw [if_neg kH]
     exact H.sx
   have n70:xn.toNat≠70:=fun h=>kH (by rw [←hid];exact UInt8.toNat_inj.1 (by rw [h];rfl))
   have n68:xn.toNat≠68:=fun h=>h68 (by rw [←hid];exact UInt8.toNat_inj.1 (by rw [h];rfl))
   have mG:¬bZ c=true:=fun h=>by
    have:=(uL c).1 h
    rw [←hid] at this
    omega
   refine H.wg ?_;clear H;intro _ _ _ _ w H
   refine Rel.cy (f:=rY) (l:=os) (x:=(((k:Int),(xn,c.2)),xs)) ad rfl rfl rfl rfl rfl ag (fun _=>rfl) (List.all_eq_true.1 rfl) H (by simp;omega) aa ?_
   clear H
   intro rn w H
   refine H.wg ?_;clear H;intro w H
   refine ⟨sB,(k+1,rn,os++[(((k:Int),(xn,c.2)),xs)]),?_,⟨by dsimp only;omega,?_,?_,?_⟩,by dsimp only;omega⟩
   ·refine ⟨?_,rfl,trivial⟩
    rw [t1,DN,if_neg mG,List.append_nil]
    rfl
   ·dsimp only
    rw [t1]
    intro y hy mP
    rcases List.mem_append.1 hy with hy|hy
    ·exact h4 y hy mP
    ·rw [List.mem_singleton.1 hy] at mP;exact absurd mP kH
   ·dsimp only
    rw [t1,uZ,if_neg mG]
    refine hpw.snoc ⟨?_,ik⟩
    rw [List.length_take,Nat.min_eq_left hk,Nat.zero_add,hid]
   ·dsimp only
    rw [t1,Bc]
    unfold fmtS
    rw [if_neg kH]
    exact H.sx
  ·rw [List.take_of_length_le aa] at h4 hpw H
   rw [List.take_of_length_le aa]
   refine wk ?_
   refine H.nA ?_;clear H;intro w Ah H
   refine wk ?_
   refine Rel.N7 (zs:=[70,68]) Tryz.underlying141 Tryz.underlying21 Tryz.underlying9 H rfl ?_
   rw [OG]
   replace H:=H.pd
   refine wk ?_
   refine tu (fun pW=>?_) (fun pW=>?_)
   ·have:nf cs=none:=by rw [nf,TV pW]
    rw [this]
    refine H.wg ?_;clear H;intro w H
    exact ⟨V2,⟨none,0,0⟩,⟨none,0,0⟩,hV2,H.sx,rfl⟩
   obtain ⟨f,d,cS⟩:=VA pW
   have Ca:=TW cS
   have hcs:nf cs=if rj f d then some (DT f d (dq 0 cs)) else none:=by rw [nf,Ca]
   have QG:mw cs=(256*at8 f 0+at8 f 1,at8 f 2,at8 f 3):=by
    rw [Pl,cS]
    rfl
   have HP:f.length=4:=h4 (70,f) (List.mem_filter.1 (by rw [cS];simp:((70,f):a8)∈cs.filter bZ)).1 rfl
   have hdl:=F3 (c:=(68,d)) (by rw [cS];simp)
   have hbl:(cs.flatMap lV).length≤1000:=by
    unfold la at hc
    split at hc
    ·obtain ⟨h1,h2⟩:=wH _ _ _ (Nat.le_refl _) hc
     have h3:=congrArg List.length h1
     simp only [List.length_append,List.length_drop,List.length_cons,List.length_nil] at h3
     omega
    ·cases hc
   rw [QG] at H
   dsimp only at H
   have g0:at8 f 0<256:=UInt8.toNat_lt _
   have g1:at8 f 1<256:=UInt8.toNat_lt _
   have g2:at8 f 2<256:=UInt8.toNat_lt _
   have g3:at8 f 3<256:=UInt8.toNat_lt _
   by_cases q1:at8 f 2<1
   ·rw [hcs,if_neg (fun h=>by have:=h.2.1;omega)]
    refine H.wg ?_;clear H;intro w H
    exact ⟨V2,⟨none,0,0⟩,⟨none,0,0⟩,hV2,H.sx,rfl⟩
   by_cases q2:2<at8 f 2
   ·rw [hcs,if_neg (fun h=>by have:=h.2.1;omega)]
    refine H.wg ?_;clear H;intro w H
    exact ⟨V2,⟨none,0,0⟩,⟨none,0,0⟩,hV2,H.sx,rfl⟩
   by_cases q3:4≤at8 f 3
   ·rw [hcs,if_neg (fun h=>by have:=h.2.2.1;omega)]
    refine H.wg ?_;clear H;intro w H
    exact ⟨V2,⟨none,0,0⟩,⟨none,0,0⟩,hV2,H.sx,rfl⟩
   obtain ⟨i,hi,Hx,Qd⟩:=Om cS
   have pK:i<ks.length:=aa
   have HW:=xQ.all i _ _ (List.getElem?_eq_getElem pK) (List.getElem?_eq_getElem hi)
   obtain ⟨hp,lI,iI⟩:=rM.dW (g:=fun x:lr=>bv x.1) (g':=fun x:lr=>x.2.v) (fun _=>rfl) pK
   have ik:=HW.data
   rw [Hx] at ik
   dsimp only at ik hdl
   refine wk ?_
   refine (Ol H.data rM aa pK (by rw [HW.id,Hx]) (fun k hk eN=>by
    rw [(xQ.all k _ _ (List.getElem?_eq_getElem eN) (List.getElem?_eq_getElem aa)).id]
    exact Qd k hk aa)).use ?_
   rintro v w ⟨rfl,K⟩
   (replace H:=H.aq K)
   have HC:=ik.len
   refine wk ?_
   (first|refine dV 14 [] [0,1,2,3,4,5,6,7,8,9,10,11,12,13,14,15,16,17,18,19,20,21,22,23,24] H ?_|refine dV 22 [4] [0,1,2,3,5,6,7,4,8,9,10] H ?_);clear H;intro w H
   refine wk ?_
   refine (jc H.data (256*at8 f 0+at8 f 1) (at8 f 2) (at8 f 3)).use ?_
   rintro v w ⟨rfl,K⟩
   (replace H:=H.aq K)
   refine wk ?_
   obtain ⟨M,hM⟩:∃M,M=(at8 f 3%2+1)*at8 f 2:=⟨_,rfl⟩
   have YN:1≤M∧M≤4:=by
    rcases (by omega:at8 f 2=1∨at8 f 2=2) with h|h<;>rw [h] at hM<;>omega
   rw [←Int.natCast_mul,←hM]
   have Y7:((ks[i].2.len:Nat):Int)%(M:Int)=((d.length%M:Nat):Int):=by rw [HC];exact (Int.natCast_emod _ _).symm
   by_cases hm:d.length%M=0
   rotate_left
   ·rw [hcs,if_neg (fun h=>hm (by rw [hM];exact h.2.2.2))]
    refine H.wg ?_;clear H;intro w H
    exact ⟨V2,⟨none,0,0⟩,⟨none,0,0⟩,hV2,H.sx,rfl⟩
   have hok:rj f d:=⟨HP,aa,aa,by rw [←hM];exact hm⟩
   rw [hcs,if_pos hok]
   refine wk ?_
   refine (Oy (rate:=256*at8 f 0+at8 f 1) (ch:=at8 f 2) (coding:=at8 f 3) H.data aa aa ik aa (fun hw=>GA (by rw [←hM];exact hm) (by simpa [bd] using hw))).use ?_
   rintro v w ⟨rs,rfl,K⟩
   (replace H:=Rel.call H K)
   simp only [List.cons_append,List.nil_append] at H
   refine H.wg ?_;clear H;intro _ w H
   obtain ⟨V3,ar,H,aS⟩:=Rel.aJ H (fun _=>rfl) ag
   obtain ⟨V4,av,H,uz⟩:=Rel.aJ H (fun _=>rfl) ag
   exact ⟨V4,rs,rn,(hV2.trans ar).trans av,H.sx,rfl,aS.up av,os,uz,hpw.up (fun _ _ _ _ hs h=>⟨h.1,h.2.up hs⟩) (ar.trans av)⟩
end
abbrev zeroV:ah:=.mk 0 0 [] [] []
abbrev cw:VH:=⟨0,0,⟨none,0,0⟩,⟨none,0,0⟩,⟨none,0,0⟩⟩
theorem gG (V:World):bc V cw zeroV:=.mk [] rfl rfl (aw.nil _ _) (aw.nil _ _) (aw.nil _ _) rfl (fun i x p h=>by simp at h)
abbrev gz (n:Int):VH:=⟨1,n,⟨none,0,0⟩,⟨none,0,0⟩,⟨none,0,0⟩⟩
abbrev eU (s:Sl):VH:=⟨2,0,s,⟨none,0,0⟩,⟨none,0,0⟩⟩
theorem sO (V:World) (n:Int):bc V (gz n) (.mk 1 n [] [] []):=.mk [] rfl rfl (aw.nil _ _) (aw.nil _ _) (aw.nil _ _) rfl (fun i x p h=>by simp at h)
theorem qB {V:World} {s:Sl} {b:List UInt8} (h:ao V s b):bc V (eU s) (.mk 2 0 b [] []):=.mk [] rfl rfl h (aw.nil _ _) (aw.nil _ _) rfl (fun i x p h=>by simp at h)
theorem Et {V:World} {ss pl:Sl} {ns:List (List UInt8)} {hs:List VH} {ps:List ah} (h1:aw oK V ss ns) (h2:aw br V pl hs) (h3:hs.length=ps.length) (h4:∀(i:Nat) x p,hs[i]?=some x→ps[i]?=some p→bc V x p) :
  bc V ⟨4,0,⟨none,0,0⟩,ss,pl⟩ (.mk 4 0 [] ns ps):=.mk hs rfl rfl (aw.nil _ _) h1 h2 h3 h4
theorem fL (n:Int) (h:0≤n∧n≤100:=by decide):bI n:=⟨aa,aa⟩
theorem sQ {B:Nat} {n:Int} (h:bI n):VB B (.mk 1 n [] [] []):=.mk (fL 1) h (Nat.zero_le _) (Nat.zero_le _) ae (Nat.zero_le _) ae
theorem qC {B:Nat} {b:List UInt8} (h:b.length≤B):VB B (.mk 2 0 b [] []):=.mk (fL 2) (fL 0) h (Nat.zero_le _) ae (Nat.zero_le _) ae
theorem XM {v:ah} (h:VB 1048576 v):VB 1099511627776 v:=h.mono aa
structure zT where
 v:ah
 r:List UInt8
 c:Int
 i:Int
def aU (o:Option (ah×List UInt8)) (n:Nat):zT:=if 1000<n then ⟨zeroV,[],3, -1⟩ else match o with
 | none=>⟨zeroV,[],21, -1⟩
 | some (v,r)=>⟨v,r,0,0⟩
structure gZ (W V:World) (x:zT) (q:Value) (w':World):Prop where
 ex:∃(V':World) (h:VH) (r:Sl),Sub V V'∧Rel W V [] V' w'∧q=.tuple #[fG h,r.v,gq x.c x.i]∧bc V' h x.v∧ao V' r x.r
def kG (v:ah) (shape:Bool) (o:Option (List UInt8)):List UInt8×Int×Int:=if (bC v).1≠0 then ([],bC v) else if shape=false then ([],13,0) else match o with
 | none=>([],6, -2)
 | some b=>(b,0,0)
structure sY (W V:World) (x:List UInt8×Int×Int) (q:Value) (w':World):Prop where
 ex:∃(V':World) (r:Sl),Sub V V'∧Rel W V [] V' w'∧q=.tuple #[r.v,gq x.2.1 x.2.2]∧ao V' r x.1
abbrev jN:=List UInt8×Int
inductive qO:List ak→ak→List ak→Prop where
 | h {r:ak} {l:List ak}:qO (r::l) r l
 | t {x r:ak} {l k:List ak}:qO l r k→qO (x::l) r (x::k)
inductive qP:List ak→List ak→Prop where
 | z {l:List ak}:qP l []
 | s {l k o:List ak} {r:ak}:qO l r k→qP k o→qP l (r::o)
theorem qO.perm {l k:List ak} {r:ak} (h:qO l r k):l.Perm (r::k):=by
 induction h with
 | h=>exact List.Perm.refl _
 | t _ ih=>exact (List.Perm.cons _ ih).trans (List.Perm.swap _ _ _)
theorem qP.perm {l o:List ak} (h:qP l o):∃k,l.Perm (o++k):=by
 induction h with
 | @z l=>exact ⟨l,List.Perm.refl _⟩
 | s h _ ih =>
  obtain ⟨k,hk⟩:=ih
  exact ⟨k,h.perm.trans (List.Perm.cons _ hk)⟩
section
variable {w0 V0 V w:World} {own:List ak}
theorem Rel.pick (H:Rel w0 V0 own V w) {o:List ak} (h:qP own o:=by repeat constructor):Rel w0 V0 o V w:=by
 obtain ⟨k,hk⟩:=h.perm
 have hm:∀r∈o,r∈own:=fun r hr=>hk.mem_iff.2 (List.mem_append_left _ hr)
 exact ⟨H.base,H.sub,H.old,fun r hr=>H.laid r (hm r hr),fun r hr=>H.new r (hm r hr),fun r hr=>H.hid r (hm r hr),((hk.pairwise_iff (fun h=>ak.Jl h)).1 H.apart).sublist (List.sublist_append_left _ _),H.data⟩
theorem Rel.less (H:Rel w0 V0 own V w) {U:World} (h1:Sub V0 U) (h2:Sub U V):Rel w0 V0 own U w :=
 ⟨H.base,h1,fun b hb hn c t f hc=>H.old b hb hn c t f (h2.bt b c t f hc),H.laid,H.new,fun r hr b hb c t f hc=>H.hid r hr b hb c t f (h2.bt b c t f hc),H.apart,h2.trans H.data⟩
end
theorem Wj {C:Cx} (hT:aQ C.P C.T) {Rel:World→World→Prop} {ops:List Oper} {xs ys:List Nat} {Q:Exit→Act→World→Prop} {K:Env→World→Prop} {Z:List PanicEntry→World→Prop} {ds:List Deferred} {i:Nat} {rest:List Nat} {r:ky} {G:Act→World→Prop}
  (hZ:∀(a:Act) w ch,a.tmps.size=C.n→a.defers=ds→Z ch w→Q (.panic ch) a w) (hr:∀env (a:Act) w,Sat env a.tmps→a.tmps.size=C.n→a.defers=ds→r env w K Z→G a w) {env:Env} {a:Act} {w:World} (hs:Sat env a.tmps) (hn:a.tmps.size=C.n) (hd:a.defers=ds)
  (h:sb C Rel ops xs ys i rest r env w K Z):∃o,ops[i]?=some o∧bA C ops xs ys Rel Q i o G a w:=by
 unfold sb at h
 obtain ⟨o,ho,h⟩:=yC h
 refine ⟨o,ho,?_⟩
 simp only [bA]
 rcases rC h hs with ⟨hw,au,hs',h'⟩|⟨hw,au,hs',h'⟩
 ·rw [if_pos hw]
  cases hq:gA C.T o.op with
  | true =>
   rw [if_pos rfl]
   obtain ⟨v,h1,h2⟩:=zJ hT hs' hq h'
   obtain ⟨_,h2⟩:=oJ h2
   obtain ⟨hst,h2⟩:=oJ h2
   refine ⟨v,fun w1 hr1=>?_,?_⟩
   ·cases aL:qm o.op with
    | false=>exact h1 w1 fun h=>by simp [aL] at h
    | true =>
     rcases hr1 aL with ⟨hi,Cd⟩|rfl
     ·exact LS hT hs' hq (hst (mS.2 hi) w1 Cd)
     ·exact h1 w1 fun _=>Ext.refl _
   ·obtain ⟨bQ,h3,h4,h5,h6⟩:=gV h2 hs' hn
    exact hr _ _ _ h3 h4 (h5.trans hd) h6
  | false =>
   rw [if_neg ae]
   refine qF hT hs' h' (fun v w' hk=>?_) (fun ch w' hz=>hZ a w' ch hn hd hz)
   obtain ⟨h1,h2⟩:=oJ hk
   refine ⟨fun hi=>h1 (mS.2 hi),?_⟩
   obtain ⟨bQ,h3,h4,h5,h6⟩:=gV (oJ h2).2 hs' hn
   exact hr _ _ _ h3 h4 (h5.trans hd) h6
 ·rw [if_neg (by simp [hw])]
  obtain ⟨bQ,h3,h4,h5,h6⟩:=gV h' hs' hn
  exact hr _ _ _ h3 h4 (h5.trans hd) h6
def CY (C:Cx) (Rel:World→World→Prop) (ops:List Oper) (xs ys:List Nat) (E:eG) (_:Nat) (_:List Nat) (r:mi):mi:=fun R env w K Z=>match R with
 | []=>K env w
 | i::rest=>match iL i E with
  | true=>ji (i::rest) (fun j=>sb C Rel ops xs ys j [] (r (mr j (i::rest))) env w K Z) E
  | false=>sb C Rel ops xs ys i [] (r rest) env w K Z
noncomputable def zH (C:Cx) (Rel:World→World→Prop) (ops:List Oper) (xs ys:List Nat) (E:eG) (l:List Nat):mi:=List.rec (motive:=fun _=>mi) Jq (CY C Rel ops xs ys E) l
theorem LO {C:Cx} (hT:aQ C.P C.T) {Rel:World→World→Prop} {ops:List Oper} {xs ys:List Nat} {E:eG} {Q:Exit→Act→World→Prop} {K:Env→World→Prop} {Z:List PanicEntry→World→Prop} {ds:List Deferred}
  (hQ:∀env (a:Act) w,Sat env a.tmps→a.tmps.size=C.n→a.defers=ds→K env w→Q .normal a w) (hZ:∀(a:Act) w ch,a.tmps.size=C.n→a.defers=ds→Z ch w→Q (.panic ch) a w) :
  ∀ {l R:List Nat} {env:Env} {a:Act} {w:World},Sat env a.tmps→a.tmps.size=C.n→a.defers=ds→zH C Rel ops xs ys E l R env w K Z→dB C ops xs ys Rel Q E l.length R a w
 | [],R,env,a,w,hs,hn,hd,h=>hQ env a w hs hn hd h
 | f::l,[],env,a,w,hs,hn,hd,h=>hQ env a w hs hn hd h
 | f::l,i::rest,env,a,w,hs,hn,hd,h=>by
  have h:CY C Rel ops xs ys E f l (zH C Rel ops xs ys E l) (i::rest) env w K Z:=h
  have one:∀j R',sb C Rel ops xs ys j [] (zH C Rel ops xs ys E l R') env w K Z→∀o,ops[j]?=some o→bA C ops xs ys Rel Q j o (dB C ops xs ys Rel Q E l.length R') a w:=by
   intro j R' hj o ho
   obtain ⟨o',gP,h'⟩:=Wj (ys:=ys) (G:=dB C ops xs ys Rel Q E l.length R') hT hZ (fun env a w h1 h2 h3 h4=>LO hT hQ hZ h1 h2 h3 h4) hs hn hd hj
   rw [ho] at gP
   cases gP
   exact h'
  unfold CY at h
  simp only [List.length_cons,dB]
  cases he:iL i E with
  | false =>
   simp only [he] at h
   exact one i rest h
  | true =>
   simp only [he] at h ⊢
   have mono:∀(E':eG) (f g:Nat→Prop),(∀j,f j→g j)→ji (i::rest) f E'→ji (i::rest) g E':=by
    intro E' f g uh
    induction E' with
    | nil=>exact fun h=>h
    | cons p E' ih =>
     obtain ⟨j,an⟩:=p
     simp only [ji]
     split
     ·split
      ·exact fun h=>⟨uh j h.1,ih h.2⟩
      ·exact uh j
     ·exact ih
   exact mono E _ _ (fun j hj=>one j _ hj) h
theorem fo {C:Cx} (hT:aQ C.P C.T) (hm:C.P.follows .mixedOrders=true) {id:Nat} {ops:Array Oper} {env:Env} {ds:List Deferred} {w:World} {Q:dU} (Rel:World→World→Prop) (hR:∀a b c:World,Rel a b→Rel b c→Rel a c) (xs ys π:List Nat) (E:eG)
  (hok:yG C.T ops.toList xs ys π E=true)
  (h:∀w1,sX w w1→zH C Rel ops.toList xs ys E π π env w1 (fun au w'=>iT au C.live fun e'=>Q .normal e' ds w') (fun ch w'=>Q (.panic ch) [] ds w')) :
  aB C (.region id ops true) env ds w Q:=by
 refine ⟨fun a hs hn hd=>?_⟩
 simp only [yG,Bool.and_eq_true,decide_eq_true_eq] at hok
 obtain ⟨⟨⟨⟨⟨⟨ht,hp⟩,hall⟩,hlen⟩,pT⟩,pS⟩,hE⟩:=hok
 have hmem:∀i,i<ops.toList.length→i∈π:=fun i hi=>by simpa using List.all_eq_true.1 hall i (by simpa using hi)
 have key:=h { w with drawn:=w.drawn+1 } ⟨rfl,rfl,rfl,rfl,Nat.le_refl _,fun _ _=>rfl⟩
 let Q':Exit→Act→World→Prop:=fun e a' w'=>a'.tmps.size=C.n∧match e with
  | .panic ch=>Q (.panic ch) [] a'.defers w'
  | e=>∃au,Sat au a'.tmps∧Q e au a'.defers w'
 refine wpIn_mono (Q:=Q') ?_ (fun e a' w' hq=>?_)
 ·refine wpIn_region_any hm ?_
  have hg:dB C ops.toList xs ys Rel Q' E π.length π a { w with drawn:=w.drawn+1 }:=by
   refine LO hT (ds:=ds) (fun au a' w' h1 h2 h3 h4=>?_) (fun a' w' ch h1 h2 h3=>?_) hs hn hd key
   ·obtain ⟨e',h5,h6⟩:=lU h4
    exact ⟨h2,e',fun t v ht=>h1 t v (h5 t v ht),h3 ▸ h6⟩
   ·exact ⟨h1,h2 ▸ h3⟩
  have hlt:∀i∈π,i<ops.toList.length:=fun i hi=>by simpa using List.all_eq_true.1 pS i hi
  have:=dB.any (C:=C) (ops:=ops.toList) (xs:=xs) (ys:=ys) (Rel:=Rel) (Q:=Q') hR (fun d v ch a w hq=>by
   obtain ⟨h1,h2⟩:=hq
   refine ⟨?_,?_⟩
   ·cases d<;>simpa [Act.put] using h1
   ·cases d<;>exact h2) (fun i an hi x hx=>by simpa using List.all_eq_true.1 (List.all_eq_true.1 hE _ hi) x hx) ops.size π (Array.replicate ops.size false) a { w with drawn:=w.drawn+1 } (by simp [hlen]) pT ae (fun i hi=>?_) hlt (fun i o ho hl=>?_) ht hp hg
  ·simpa using this
  ·have:i<ops.size:=by simpa using hi
   simp [Array.getD,this,hmem i hi]
  ·have:i<ops.size:=by simpa using (List.getElem?_eq_some_iff.1 ho).1
   simp [Array.getD,this] at hl
 ·obtain ⟨h1,h2⟩:=hq
  cases e with
  | panic ch=>exact ⟨h1,[],Sat.nil _,h2⟩
  | _=>exact ⟨h1,h2⟩
structure Kv (V w w':World):Prop where
 up:Sub V w→Sub V w'
theorem Kv.trans {V:World} (a b c:World) (h:Kv V a b) (k:Kv V b c):Kv V a c:=⟨fun s=>k.up (h.up s)⟩
theorem Kv.of {w0 V0 V w':World} {own:List ak} (H:Rel w0 V0 own V w') {w:World}:Kv V w w':=⟨fun _=>H.data⟩
theorem Kv.go {w0 V0 V w':World} {own:List ak} (H:Rel w0 V0 own V w') {w:World} {p:Prop} (h:p):Kv V w w'∧p:=⟨Kv.of H,h⟩
theorem Kv.in {w0 V0 V w:World} {own:List ak} (H:Rel w0 V0 own V w) {w1:World} (h:Kv V w w1):Rel w1 V [] V w1:=Rel.start (h.up H.data)
end Go.Proofs.YtmoiobegbpkkbaaGreatDoor
