import Derived.Test.YtmoiobegbpkkbaaGreatDoorKAI
import Derived.Shelf.Strings.Cut
namespace Go.Proofs.YtmoiobegbpkkbaaGreatDoor
open Go Go.RowKit
set_option maxRecDepth 100000
set_option maxHeartbeats 8000000
theorem wB {n:Nat} (h:n<256) {x:Int} (hx:x=n):[Value.int .u8 (wr .u8 x)]=[UInt8.ofNat n].flatMap ay:=by
 have e1:wr .u8 x=(n:Int):=by rw [hx];show (n:Int)%256=_;omega
 have e2:(UInt8.ofNat n).toNat=n:=by rw [UInt8.toNat_ofNat'];omega
 simp only [List.flatMap_cons,List.flatMap_nil,ay,bv,List.append_nil,e1,e2]
section
variable {V W:World}
theorem Po (hV:Sub V W) {s:Sl} {p:List aW} (hs:jL V s p) (hp:p.length≤16):aj Tryz.prog 213 [s.v].toArray W fun v w'=>∃r:Sl,v=r.v∧Rel W V [.row r 5 1 ((ot p).flatMap ay)] V w':=by
 have H:=Rel.start hV
 have hlen:=hs.len
 refine eV Tryz.func213 21 [0,2,3,5,10,11,12,13] ?_
 refine wk ?_
 refine H.nA ?_;clear H;intro w b9 H
 refine wk ?_
 replace H:=H.cj (wB (n:=p.length) aa aa)
 replace H:=H.gj (n:=1) (e:=5) (sz:=1) rfl (by simp [maxLen])
 refine aK (S:=Nat×Sl) ad [0,2,10,11] (fun k=>[(3,k.2.v),(12,iv k.1)]) (fun k w'=>k.1≤p.length∧Rel W V [.row k.2 5 1 ((UInt8.ofNat p.length::cZ (p.take k.1)).flatMap ay)] V w') (fun k _=>p.length - k.1) (0,⟨some ⟨b9,0,none⟩,1,1⟩) ?_
 conv=>whnf
 refine ⟨sB,⟨aa,H⟩,?_⟩
 clear H
 rintro ⟨k,r⟩ w ⟨hk,H⟩
 dsimp only at hk H ⊢
 by_cases hlt:k<p.length
 ·obtain ⟨hpl,g1,g2,g3⟩:=hs.lv hlt
  refine wk ?_
  refine H.nA ?_;clear H;intro w b5 H
  refine H.wg ?_;clear H;intro w H
  obtain ⟨V2,hV2,H,hb5⟩:=H.bJ
  have hx:ao V2 ⟨some ⟨b5,0,none⟩,3,3⟩ (nI p[k]):=⟨rfl,Nat.le_refl _,hb5.cells⟩
  refine Rel.gn H (i:=0) rfl hx (by
   rw [List.length_cons,jm,List.length_take]
   show _+3≤_
   omega) ?_
  clear H
  intro r1 w H
  replace H:=H.less (Sub.refl _) hV2
  simp only [List.set_cons_zero] at H
  refine wk ?_
  refine ⟨sB,(k+1,r1),sB,⟨by dsimp only;omega,?_⟩,by dsimp only;omega⟩
  rw [List.take_succ_eq_append_getElem hlt]
  simp only [cZ,List.flatMap_append,List.flatMap_cons,List.flatMap_nil,List.append_nil,List.cons_append,List.append_assoc] at H ⊢
  exact H
 ·rw [List.take_of_length_le aa] at H
  refine wk ?_
  exact ⟨r,rfl,H⟩
theorem U3 (hV:Sub V W) {f:Nat} (hf:f<64) {s:Sl} {p:List aW} (hs:jL V s p) (hp:p.length≤16):aj Tryz.prog 134 [.agg (gE f s).toArray].toArray W fun v w'=>∃r:Sl,v=r.v∧Rel W V [.row r 5 1 ((kY f p).flatMap ay)] V w':=by
 have H:=Rel.start hV
 refine eV Tryz.func134 22 [0,1,2,3,7] ?_
 refine wk ?_
 refine H.nA ?_;clear H;intro w b1 H
 unfold kY
 by_cases h48:f=48
 ·rw [if_pos h48]
  refine wk ?_
  replace H:=H.bw 5 1
  exact ⟨⟨none,0,0⟩,rfl,H.sx⟩
 rw [if_neg h48]
 refine wk ?_
 refine (IC H.data aa s).use ?_
 rintro q w ⟨rfl,K⟩
 (replace H:=H.aq K)
 unfold ng
 by_cases h32:f<32
 ·rw [if_pos h32]
  refine wk ?_
  obtain ⟨V2,hV2,H,gN⟩:=(H.sx (own':=[.al b1 (gE f s) _])).bJ
  have k0:=gN.bt (i:=0) rfl
  have k1:=gN.bt (i:=1) rfl
  (first|refine fo (id:=4) ad mixed (Kv V2) Kv.trans [3,6] [1,2,5] [0,1,2,4,5,3,6,7,8] [(3,[]),(6,[]),(7,[3,6])] ab ?_);intro w aG;replace H:=Rel.ext H aG.ext
  repeat' (refine wk ?_;first|(first|refine Kv.go H ?_|refine Kv.go2 H (by assumption) ?_|(refine And.intro (fun w1 hkp=>?_) ?_;focus ((first|have H:=Kv.in H hkp|have H:=Kv.j9 H (by assumption) hkp);((repeat ((conv=>whnf);first|refine an ?_|refine H.ce ?_|refine H.db ?_|refine ea ?_|refine ol ?_|fail|refine cT ?_|refine cF ?_|refine cN ?_|refine cM ?_|refine H.lw ?_|refine H.ll ?_));(conv=>whnf));all_goals (first|exact ⟨rfl,rfl⟩|exact rfl)))|refine And.intro ?_ ?_|(refine H.nA ?_;clear H;intro w _ H))|(refine (Po H.data (hs.up hV2) hp).use ?_;rintro q w ⟨r,rfl,K⟩;(replace H:=Rel.call H K);simp only [List.append_nil,List.cons_append,List.nil_append] at H))
  ·replace H:=H.fX
   refine wk ?_
   replace H:=H.cj (wB (n:=f) aa aa)
   replace H:=H.gj (n:=1) (e:=5) (sz:=1) rfl (by simp [maxLen])
   replace H:=H.fX
   refine Rel.cQ H (i:=0) rfl (by
    unfold ot
    simp only [List.length_cons,List.length_nil,jm]
    omega) ?_
   clear H
   intro r1 w H
   replace H:=H.less (Sub.refl _) hV2
   simp only [List.set_cons_zero] at H
   refine wk ?_
   exact ⟨r1,rfl,H⟩
  ·refine wk ?_
   replace H:=H.cj (wB (n:=f) aa aa)
   replace H:=H.gj (n:=1) (e:=5) (sz:=1) rfl (by simp [maxLen])
   replace H:=H.fX
   refine Rel.cQ H (i:=0) rfl (by
    unfold ot
    simp only [List.length_cons,List.length_nil,jm]
    omega) ?_
   clear H
   intro r1 w H
   replace H:=H.less (Sub.refl _) hV2
   simp only [List.set_cons_zero] at H
   refine wk ?_
   exact ⟨r1,rfl,H⟩
 ·rw [if_neg h32]
  refine H.wg ?_;clear H;intro _ w H
  replace H:=H.cj (wB (n:=f) aa aa)
  replace H:=H.gj (n:=1) (e:=5) (sz:=1) rfl (by simp [maxLen])
  exact ⟨_,rfl,H.sx⟩
end
theorem MI:∀f:Nat,f<256→aV .and .i64 (f:Int) 15=((f%16:Nat):Int):=by decide +kernel
theorem Ky {x sh:Nat} {y:Int} (hy:y=sh) (h:sh≤64):(x:Int) / 2 ^ min y.toNat IntKind.i64.bits=((x / 2 ^ sh:Nat):Int):=by
 have e:min y.toNat IntKind.i64.bits=sh:=by
  rw [hy,Int.toNat_natCast]
  show min sh 64=sh
  omega
 rw [e,Int.natCast_ediv,Int.natCast_pow]
 rfl
structure Mv (W V:World) (o:Option (List UInt8)) (v:Value) (w':World):Prop where
 ex:∃(V':World) (r:Sl),Sub V V'∧Rel W V [] V' w'∧(match o with
  | none=>v=.tuple #[.slice none 0 0,.bool false]
  | some x=>v=.tuple #[r.v,.bool true]∧ao V' r x)
section
variable {V W:World}
theorem W8 (c:UInt8):[bv c,bv c,bv c]=[c,c,c].flatMap ay:=rfl
theorem Fj {ps:Sl} {aA:List aW} (hp:jL V ps aA) {k:Nat} (hk:k<aA.length):ao V ⟨aD (some ⟨aN ps.a,aI ps.a+k*3,none⟩) 0 3 1,3 - 0,3 - 0⟩ (nI aA[k]):=by
 obtain ⟨q0,g1,g2,g3⟩:=hp.lv hk
 refine ⟨rfl,Nat.le_refl _,?_⟩
 show Cells V (aD (some ⟨aN ps.a,aI ps.a+k*3,none⟩) 0 3 1) _
 have e:aD (some ⟨aN ps.a,aI ps.a+k*3,none⟩) 0 3 1=some ⟨aN ps.a,aI ps.a+k*3,none⟩:=by
  unfold aD
  rw [if_neg ag]
  simp [addr_add]
 rw [e]
 refine ⟨fun _=>rfl,fun j v hj=>?_⟩
 simp only [aN,aI]
 match j,hj with
 | 0,hj=>cases hj;exact g1
 | 1,hj=>cases hj;exact g2
 | 2,hj=>cases hj;exact g3
 | j+3,hj=>simp at hj
theorem UF (hV:Sub V W) {f:Nat} (hf:f<64) {ps:Sl} {aA:List aW} (hp:jL V ps aA) (hpo:jg f aA) {s:Sl} {row:List UInt8} (hs:ao V s row) {wd:Nat} (hw:wd≤64) (hl:row.length=rowOf f wd):aj Tryz.prog 274 [.agg (gE f ps).toArray,s.v,iv (wd:Int)].toArray W (Mv W V (mX f aA wd row)):=by
 have H:=Rel.start hV
 have hlen:=hs.len
 have hb:=Ai f
 have HX:row.length≤200:=by
  rw [hl]
  unfold rowOf
  have:wd*bitsOf f≤64*24:=Nat.mul_le_mul hw hb.2
  omega
 refine eV Tryz.func274 88 [0,1,2,3,6,7,8,10,11,12,13,14,16,17,20,22,23,24,25,42,43,44,74,79,80] ?_
 refine wk ?_
 refine H.nA ?_;clear H;intro w b3 H
 refine wk ?_
 refine (wU H.data aa ps).use ?_
 rintro q w ⟨rfl,K⟩
 (replace H:=H.aq K)
 unfold mX
 by_cases h3:f / 16=3
 ·rw [if_pos h3]
  refine wk ?_
  exact ⟨V,s,Sub.refl _,H.sx,rfl,hs⟩
 rw [if_neg h3]
 by_cases h2:f / 16=2
 ·rw [if_pos h2]
  refine wk ?_
  replace H:=H.bw 5 1
  refine aK (S:=Nat×Sl) ad [0,1,2,3,6,7,11,12,13,14,16,17,20,22,23,42,43,44,74,79,80] (fun k=>[(8,k.2.v),(24,iv k.1)]) (fun k w'=>k.1≤row.length∧Rel W V [.row k.2 5 1 (((row.take k.1).flatMap fun c=>[c,c,c]).flatMap ay)] V w') (fun k _=>row.length - k.1) (0,⟨none,0,0⟩) ?_
  conv=>whnf
  refine ⟨sB,⟨aa,H.sx⟩,?_⟩
  clear H
  rintro ⟨k,r⟩ w ⟨hk,H⟩
  dsimp only at hk H ⊢
  by_cases hlt:k<row.length
  ·obtain ⟨p0,c0⟩:=hs.aP (g:=bv) (fun _=>rfl) hlt
   refine H.wg ?_;clear H;intro _ w H
   replace H:=H.cj (W8 row[k])
   replace H:=H.gj (n:=3) (e:=5) (sz:=1) rfl (by simp [maxLen])
   have hle:((row.take k).flatMap fun c=>[c,c,c]).length≤600:=by
    rw [GQ,jm,List.length_map,List.length_range,List.length_take]
    omega
   refine Rel.cQ H (i:=0) rfl (by simp only [List.length_cons,List.length_nil];omega) ?_
   clear H
   intro r1 w H
   simp only [List.set_cons_zero] at H
   refine wk ?_
   refine ⟨sB,(k+1,r1),sB,⟨by dsimp only;omega,?_⟩,by dsimp only;omega⟩
   rw [List.take_succ_eq_append_getElem hlt,List.flatMap_append]
   exact H
  ·rw [List.take_of_length_le aa] at H
   obtain ⟨V2,hV2,H,hr⟩:=Rel.aJ H (fun _=>rfl) ag
   refine wk ?_
   exact ⟨V2,r,hV2,H.sx,rfl,hr⟩
 rw [if_neg h2]
 obtain ⟨hn,h32,hm⟩:=EY hf h3 h2
 obtain ⟨Zs,Zt,Zu⟩:=hpo.ind h32
 have hpl:=hp.len
 refine wk ?_
 refine (EZ H.data hf ps).use ?_
 rintro q w ⟨rfl,K⟩
 (replace H:=H.aq K)
 have hm2:=yq f
 unfold rowOf at hl
 rcases hn with e|e
 ·rw [e] at hl ⊢
  refine wk ?_
  replace H:=H.bw 5 1
  refine aK (S:=Nat×Sl) ad [0,1,2,3,10,11,16,17,20,22,23,24,25,42] (fun k=>[(8,k.2.v),(43,iv k.1)]) (fun k w'=>k.1≤8*row.length / 1∧(∀j,j<k.1→j<wd→fieldAt 1 row j<aA.length)∧(∀j,j<k.1→wd≤j→fieldAt 1 row j=0)∧Rel W V [.row k.2 5 1 ((cZ ((List.range (min k.1 wd)).map (iS 1 aA row))).flatMap ay),.al b3 (gE f ps) 160] V w') (fun k _=>8*row.length / 1 - k.1) (0,⟨none,0,0⟩) ?_
  conv=>whnf
  refine ⟨sB,⟨aa,fun j hj=>by omega,fun j hj=>by omega,by simpa using H⟩,?_⟩
  clear H
  rintro ⟨i,r⟩ w ⟨hi,hA,hB,H⟩
  dsimp only at hi hA hB H ⊢
  by_cases hlt:i<8*row.length / 1
  ·obtain ⟨p0,c0⟩:=vX hs (i:=i*1 / 8) aa
   have hx:(z8 row (i*1 / 8)).toNat / 2 ^ (8 - 1 - i*1%8)<256:=Nat.lt_of_le_of_lt (Nat.div_le_self _ _) (UInt8.toNat_lt _)
   have hv:aV .and .i64 (((z8 row (i*1 / 8)).toNat / 2 ^ (8 - 1 - i*1%8):Nat):Int) (2 - 1)=((fieldAt 1 row i:Nat):Int):=and_1 _ hx
   refine wk ?_
   refine dV 17 [] [0,1,2,3,4,5,6,7,8,9,10,11,12,13,14] H ?_;clear H;intro w H
   refine wk ?_
   rw [show (1:Int)*2 ^ min ((1:Nat):Int).toNat IntKind.i64.bits=2 by decide,Ky (sh:=8 - 1 - i*1%8) aa aa]
   refine wk ?_
   rw [hv]
   have cS:=GC 1 row i
   obtain ⟨k,hk⟩:∃k,k=fieldAt 1 row i:=⟨_,rfl⟩
   rw [←hk] at cS ⊢
   by_cases pO:i<wd
   ·by_cases hkp:k<aA.length
    ·obtain ⟨q0,g1,g2,g3⟩:=hp.lv hkp
     have hle:(cZ ((List.range (min i wd)).map (iS 1 aA row))).length≤300:=by
      rw [jm,List.length_map,List.length_range]
      omega
     refine wk ?_
     refine Rel.gn (x:=⟨aD (some ⟨aN ps.a,aI ps.a+k*3,none⟩) 0 3 1,3 - 0,3 - 0⟩) H (i:=0) rfl (Fj hp hkp) (by simp only [List.length_cons,List.length_nil];omega) ?_
     clear H
     intro r1 w H
     simp only [List.set_cons_zero] at H
     refine wk ?_
     refine ⟨sB,(i+1,r1),sB,⟨by dsimp only;omega,fun j hj fK=>?_,fun j hj fK=>hB j aa fK,?_⟩,by dsimp only;omega⟩
     ·by_cases e2:j=i
      ·rw [e2,←hk]
       exact hkp
      ·exact hA j aa fK
     ·rw [show min (i+1) wd=min i wd+1 by omega,List.range_succ,List.map_append,List.map_singleton,show min i wd=i by omega]
      rw [show min i wd=i by omega] at H
      have jx:iS 1 aA row i=aA[k]:=by
       unfold iS wM
       rw [←hk,List.getElem?_eq_getElem hkp]
       rfl
      rw [jx]
      simp only [cZ,List.flatMap_append,List.flatMap_cons,List.flatMap_nil,List.append_nil] at H ⊢
      exact H
    ·rw [if_neg (fun h=>hkp (by rw [hk];exact h.1 i pO))]
     refine wk ?_
     exact ⟨V,⟨none,0,0⟩,Sub.refl _,H.sx,rfl⟩
   ·by_cases hk0:k=0
    ·refine wk ?_
     refine ⟨sB,(i+1,r),sB,⟨by dsimp only;omega,fun j hj fK=>hA j aa fK,fun j hj fK=>?_,?_⟩,by dsimp only;omega⟩
     ·by_cases e2:j=i
      ·rw [e2,←hk,hk0]
      ·exact hB j aa fK
     ·rw [show min (i+1) wd=min i wd by omega]
      exact H
    ·rw [if_neg (fun h=>hk0 (by rw [hk];exact h.2 i hlt aa))]
     refine wk ?_
     exact ⟨V,⟨none,0,0⟩,Sub.refl _,H.sx,rfl⟩
  ·have hok:vn 1 aA wd row:=⟨fun j hj=>hA j aa hj,fun j hj fK=>hB j aa fK⟩
   rw [if_pos hok,show min i wd=wd by omega]at *
   obtain ⟨V2,hV2,H,hr⟩:=Rel.aJ H (fun _=>rfl) ag
   refine wk ?_
   exact ⟨V2,r,hV2,H.sx,rfl,hr⟩
 ·rw [e] at hl ⊢
  refine wk ?_
  replace H:=H.bw 5 1
  refine aK (S:=Nat×Sl) ad [0,1,2,3,10,11,16,17,20,22,23,24,25,42] (fun k=>[(8,k.2.v),(43,iv k.1)]) (fun k w'=>k.1≤8*row.length / 4∧(∀j,j<k.1→j<wd→fieldAt 4 row j<aA.length)∧(∀j,j<k.1→wd≤j→fieldAt 4 row j=0)∧Rel W V [.row k.2 5 1 ((cZ ((List.range (min k.1 wd)).map (iS 4 aA row))).flatMap ay),.al b3 (gE f ps) 160] V w') (fun k _=>8*row.length / 4 - k.1) (0,⟨none,0,0⟩) ?_
  conv=>whnf
  refine ⟨sB,⟨aa,fun j hj=>by omega,fun j hj=>by omega,by simpa using H⟩,?_⟩
  clear H
  rintro ⟨i,r⟩ w ⟨hi,hA,hB,H⟩
  dsimp only at hi hA hB H ⊢
  by_cases hlt:i<8*row.length / 4
  ·obtain ⟨p0,c0⟩:=vX hs (i:=i*4 / 8) aa
   have hx:(z8 row (i*4 / 8)).toNat / 2 ^ (8 - 4 - i*4%8)<256:=Nat.lt_of_le_of_lt (Nat.div_le_self _ _) (UInt8.toNat_lt _)
   have hv:aV .and .i64 (((z8 row (i*4 / 8)).toNat / 2 ^ (8 - 4 - i*4%8):Nat):Int) (16 - 1)=((fieldAt 4 row i:Nat):Int):=MI _ hx
   refine wk ?_
   refine dV 17 [] [0,1,2,3,4,5,6,7,8,9,10,11,12,13,14] H ?_;clear H;intro w H
   refine wk ?_
   rw [show (1:Int)*2 ^ min ((4:Nat):Int).toNat IntKind.i64.bits=16 by decide,Ky (sh:=8 - 4 - i*4%8) aa aa]
   refine wk ?_
   rw [hv]
   have cS:=GC 4 row i
   obtain ⟨k,hk⟩:∃k,k=fieldAt 4 row i:=⟨_,rfl⟩
   rw [←hk] at cS ⊢
   by_cases pO:i<wd
   ·by_cases hkp:k<aA.length
    ·obtain ⟨q0,g1,g2,g3⟩:=hp.lv hkp
     have hle:(cZ ((List.range (min i wd)).map (iS 4 aA row))).length≤300:=by
      rw [jm,List.length_map,List.length_range]
      omega
     refine wk ?_
     refine Rel.gn (x:=⟨aD (some ⟨aN ps.a,aI ps.a+k*3,none⟩) 0 3 1,3 - 0,3 - 0⟩) H (i:=0) rfl (Fj hp hkp) (by simp only [List.length_cons,List.length_nil];omega) ?_
     clear H
     intro r1 w H
     simp only [List.set_cons_zero] at H
     refine wk ?_
     refine ⟨sB,(i+1,r1),sB,⟨by dsimp only;omega,fun j hj fK=>?_,fun j hj fK=>hB j aa fK,?_⟩,by dsimp only;omega⟩
     ·by_cases e2:j=i
      ·rw [e2,←hk]
       exact hkp
      ·exact hA j aa fK
     ·rw [show min (i+1) wd=min i wd+1 by omega,List.range_succ,List.map_append,List.map_singleton,show min i wd=i by omega]
      rw [show min i wd=i by omega] at H
      have jx:iS 4 aA row i=aA[k]:=by
       unfold iS wM
       rw [←hk,List.getElem?_eq_getElem hkp]
       rfl
      rw [jx]
      simp only [cZ,List.flatMap_append,List.flatMap_cons,List.flatMap_nil,List.append_nil] at H ⊢
      exact H
    ·rw [if_neg (fun h=>hkp (by rw [hk];exact h.1 i pO))]
     refine wk ?_
     exact ⟨V,⟨none,0,0⟩,Sub.refl _,H.sx,rfl⟩
   ·by_cases hk0:k=0
    ·refine wk ?_
     refine ⟨sB,(i+1,r),sB,⟨by dsimp only;omega,fun j hj fK=>hA j aa fK,fun j hj fK=>?_,?_⟩,by dsimp only;omega⟩
     ·by_cases e2:j=i
      ·rw [e2,←hk,hk0]
      ·exact hB j aa fK
     ·rw [show min (i+1) wd=min i wd by omega]
      exact H
    ·rw [if_neg (fun h=>hk0 (by rw [hk];exact h.2 i hlt aa))]
     refine wk ?_
     exact ⟨V,⟨none,0,0⟩,Sub.refl _,H.sx,rfl⟩
  ·have hok:vn 4 aA wd row:=⟨fun j hj=>hA j aa hj,fun j hj fK=>hB j aa fK⟩
   rw [if_pos hok,show min i wd=wd by omega]at *
   obtain ⟨V2,hV2,H,hr⟩:=Rel.aJ H (fun _=>rfl) ag
   refine wk ?_
   exact ⟨V2,r,hV2,H.sx,rfl,hr⟩
end
def ak.oc:ak→Bool
 | .obj _ _=>false
 | _=>true
section
variable {w0 V0 V w:World} {own:List ak}
theorem Rel.tw {B:Nat} (H:Rel w0 V0 own V w) (hc:own.all ak.oc=true) (hB:w0.heap.size≤B) {w':World} (ht:Tw B w w'):Rel w0 V0 own V w':=by
 refine ⟨⟨ht.os.trans H.base.os,ht.tape.trans H.base.tape,ht.output.trans H.base.output,Nat.le_trans H.base.size ht.size,fun k hk=>(ht.low k aa).trans (H.base.block k hk)⟩,H.sub,H.old,fun r hr=>?_,H.new,H.hid,H.apart,⟨fun b c t f hb=>ht.bt _ _ _ _ (H.data.bt b c t f hb)⟩⟩
 have h1:=H.laid r hr
 have h2:=List.all_eq_true.1 hc r hr
 cases r with
 | al b l t=>exact bD.tw h1 ht
 | row s e sz xs=>exact Row.Lh h1 ht
 | obj b o=>cases h2
def rW:Obj→Bool
 | .cells _ _ _=>false
 | _=>true
def rU (w:World) (B j:Nat):Option ak:=match w.heap[j]? with
 | some o=>if B≤j∧rW o=true then some (.obj j o) else none
 | none=>none
theorem ke {B j:Nat} {r:ak} (h:rU w B j=some r):∃o,w.heap[j]?=some o∧B≤j∧rW o=true∧r=.obj j o:=by
 unfold rU at h
 split at h
 ·rename_i o ho
  split at h
  ·rename_i hc
   cases h
   exact ⟨o,ho,hc.1,hc.2,rfl⟩
  ·cases h
 ·cases h
theorem ak.cell_of {r:ak} (hc:r.oc=true) (h:r.laid w) {b:Nat} (hb:r.at_=some b):∃c t f,w.heap[b]?=some (.cells c t f):=by
 cases r with
 | al b' l t=>cases hb;exact ⟨_,_,_,h⟩
 | row s e sz xs =>
  simp only [ak.at_,Option.map_eq_some_iff] at hb
  obtain ⟨p,hp,rfl⟩:=hb
  rcases h.at_ with ⟨h1,_⟩|⟨b',cur,h1,h2,_⟩
  ·rw [hp] at h1;cases h1
  ·rw [hp] at h1;cases h1;obtain ⟨fz,h2,_⟩:=h2;exact ⟨_,_,_,h2⟩
 | obj b' o=>cases hc
theorem Rel.marks (H:Rel w0 V0 own V w) (hc:own.all ak.oc=true) {B:Nat} (hB:w0.heap.size≤B):∃X:List ak,Rel w0 V0 (own++X) V w∧∀w',(∀r∈X,r.laid w')→iD B w w':=by
 refine ⟨(List.range w.heap.size).filterMap (rU w B),⟨H.base,H.sub,H.old,?_,?_,?_,?_,H.data⟩,?_⟩
 ·intro r hr
  rcases List.mem_append.1 hr with hr|hr
  ·exact H.laid r hr
  ·obtain ⟨j,_,hj⟩:=List.mem_filterMap.1 hr
   obtain ⟨o,ho,_,_,rfl⟩:=ke hj
   exact ho
 ·intro r hr b hb
  rcases List.mem_append.1 hr with hr|hr
  ·exact H.new r hr b hb
  ·obtain ⟨j,_,hj⟩:=List.mem_filterMap.1 hr
   obtain ⟨o,ho,tL,_,rfl⟩:=ke hj
   cases hb
   omega
 ·intro r hr b hb
  rcases List.mem_append.1 hr with hr|hr
  ·exact H.hid r hr b hb
  ·obtain ⟨j,_,hj⟩:=List.mem_filterMap.1 hr
   obtain ⟨o,ho,tL,hn,rfl⟩:=ke hj
   cases hb
   intro c t f hv
   have:=H.data.bt _ _ _ _ hv
   rw [ho] at this
   cases this
   cases hn
 ·refine List.pairwise_append.2 ⟨H.apart,?_,fun r hr s hs b hb gu=>?_⟩
  ·rw [List.pairwise_filterMap]
   refine List.Pairwise.imp ?_ List.nodup_range
   intro i j pN r hr s hs b hb gu
   obtain ⟨o,ho,_,_,rfl⟩:=ke hr
   obtain ⟨o',gP,_,_,rfl⟩:=ke hs
   cases hb
   cases gu
   exact pN rfl
  ·obtain ⟨c,t,f,hcell⟩:=ak.cell_of (List.all_eq_true.1 hc r hr) (H.laid r hr) hb
   obtain ⟨j,_,hj⟩:=List.mem_filterMap.1 hs
   obtain ⟨o,ho,tL,hn,rfl⟩:=ke hj
   cases gu
   rw [ho] at hcell
   cases hcell
   cases hn
 ·intro w' hX j o hj ho hn
  have hlt:=(Array.getElem?_eq_some_iff.1 ho).1
  have hno:rW o=true:=by
   cases o with
   | cells c t f=>exact absurd rfl (hn c t f)
   | _=>rfl
  exact hX (.obj j o) (List.mem_filterMap.2 ⟨j,List.mem_range.2 hlt,by simp [rU,ho,hj,hno]⟩)
end
theorem JY {C:Cx} (hT:aQ C.P C.T) (hro:C.r=none) {g:Operand} {ps:Array Tmp} {assign body:Code} {env:Env} {ds:List Deferred} {w:World} {Q:dU} {gf:Nat} {lb:List Value} {w0 V0 V:World}
  (hg:bf env g fun v=>v=.func (.func gf) #[] lb.toArray) {xs:List (List Value)} (hit:wb C.P gf lb xs (fun W=>Sub V W)) (hps:∀x∈xs,x.length=ps.size) (hpn:(ps.toList.all fun p=>decide (p<C.n))=true)
  {σ:Type} (own:Nat→σ→List ak) (hcell:∀k s,(own k s).all ak.oc=true) (F:Nat→σ→World→Prop) {τ:Type} (yH:Code→τ→List ak) (Hw:∀c t,(yH c t).all ak.oc=true) (Fx:Code→τ→World→Prop)
  (s0:σ) {V1:World} (hV1:Sub V V1) (H:Rel w0 V0 (own 0 s0) V1 w) (hF:F 0 s0 V1)
  (pV:∀L k x W s V1,xs[k]?=some x→Sub V V1→F k s V1→Rel w0 V0 (own k s) V1 W→dT { C with r:=some L } assign (sr ps.toList x env) [] W fun e rf ds1 W1=>(match e with
   | .normal=>ds1=[]∧iD w.heap.size W W1∧∀W2,Tw w.heap.size W1 W2→dT { C with r:=some L } body rf [] W2 (DB w.heap.size W2 (fun W=>∃V1 s,Sub V V1∧F (k+1) s V1∧Rel w0 V0 (own (k+1) s) V1 W) (fun c W=>∃V1 t,Sub V V1∧Fx c t V1∧Rel w0 V0 (yH c t) V1 W))
   | _=>False))
  (hdone:∀D W s V1,Sub V V1→F xs.length s V1→Rel w0 V0 (own xs.length s++[.obj D (.deferred (some []))]) V1 W→Q .normal env ({ target:=.collected D,args:=#[] }::ds) W)
  (hstop:∀D c W t V1,Sub V V1→Fx c t V1→Rel w0 V0 (yH c t++[.obj D (.deferred (some []))]) V1 W→dT C c env ({ target:=.collected D,args:=#[] }::ds) W Q) :
  aB C (.rangeFunc g ps assign body) env ds w Q:=by
 have hB:w0.heap.size≤w.heap.size:=H.base.size
 have LV:∀ {own:List ak} {V1 W:World} {D:Nat},own.all ak.oc=true→w.heap.size≤D→W.heap[D]?=some (.deferred (some []))→Rel w0 V0 own V1 W→Rel w0 V0 (own++[.obj D (.deferred (some []))]) V1 W:=by
  intro own V1 W D hc hD hW H
  refine ⟨H.base,H.sub,H.old,?_,?_,?_,?_,H.data⟩
  ·intro r hr
   rcases List.mem_append.1 hr with hr|hr
   ·exact H.laid r hr
   ·rw [List.mem_singleton.1 hr];exact hW
  ·intro r hr b hb
   rcases List.mem_append.1 hr with hr|hr
   ·exact H.new r hr b hb
   ·rw [List.mem_singleton.1 hr] at hb;cases hb;omega
  ·intro r hr b hb
   rcases List.mem_append.1 hr with hr|hr
   ·exact H.hid r hr b hb
   ·rw [List.mem_singleton.1 hr] at hb;cases hb
    intro c t f hv
    have:=H.data.bt _ _ _ _ hv
    rw [hW] at this
    cases this
  ·refine List.pairwise_append.2 ⟨H.apart,List.pairwise_singleton _ _,fun r hr s hs b hb gu=>?_⟩
   obtain ⟨c,t,f,hcell⟩:=ak.cell_of (List.all_eq_true.1 hc r hr) (H.laid r hr) hb
   rw [List.mem_singleton.1 hs] at gu
   cases gu
   rw [hW] at hcell
   cases hcell
 refine JZ hT hro hg hit hps hpn (fun k W=>∃V1 s,Sub V V1∧F k s V1∧Rel w0 V0 (own k s) V1 W) (fun c W=>∃V1 t,Sub V V1∧Fx c t V1∧Rel w0 V0 (yH c t) V1 W) ?_ ?_ ?_ ⟨V1,s0,hV1,hF,H⟩ ?_ ?_ ?_
 ·rintro k W W' ⟨V1,s,h1,h2,h3⟩ ht
  exact ⟨V1,s,h1,h2,h3.tw (hcell k s) hB ht⟩
 ·rintro c W W' ⟨V1,t,h1,h2,h3⟩ ht
  exact ⟨V1,t,h1,h2,h3.tw (Hw c t) hB ht⟩
 ·rintro k W ⟨V1,s,h1,h2,h3⟩
  exact h1.trans h3.data
 ·rintro L k x W hx ⟨V1,s,h1,h2,h3⟩
  exact pV L k x W s V1 hx h1 h2 h3
 ·rintro D W hD hW ⟨V1,s,h1,h2,h3⟩
  exact hdone D W s V1 h1 h2 (LV (hcell _ s) hD hW h3)
 ·rintro D c W hD hW ⟨V1,t,h1,h2,h3⟩
  exact hstop D c W t V1 h1 h2 (LV (Hw c t) hD hW h3)
theorem Rel.zE {w0 V0 V w:World} {own:List ak} {D:Nat} {d:Obj} (H:Rel w0 V0 own V w) {own':List ak} (hs:own'.Sublist own) (hc:own'.all ak.oc=true) (hD:ak.obj D d∈own) {w':World} (ht:Tw D w w'):Rel w0 V0 own' V w' :=
 (H.sl hs).tw hc (H.new _ hD D rfl) ht
theorem Rel.mark {w0 V0 V w:World} {own:List ak} {D:Nat} {d:Obj} (H:Rel w0 V0 own V w) (hD:ak.obj D d∈own):w.heap[D]?=some d:=H.laid (.obj D d) hD
theorem VI {P:Program} {w:World} {ts:Array TypeId} {t:TypeId} {k k':IntKind} {x y:Int} {K:Value→World→Prop} (m:Int) (hm:m≤x∧m≤y∧(m=x∨m=y)) (h:K (.int k m) w):aH P (Builtin.min_ ts t #[.int k x,.int k' y]) w K :=
 .of (run_min_int2 w ts t k k' x y) (by rw [show (if y<x then y else x)=m by split<;>omega];exact h)
abbrev v7 (m n len:Nat):Prop:=∀i,i<m↔i*n<len
theorem wK {h n:Nat} (hn:1≤n):v7 h n (h*n):=fun i=>by
 constructor
 ·intro hi
  have:(i+1)*n≤h*n:=Nat.mul_le_mul_right n hi
  rw [Nat.add_mul] at this
  omega
 ·intro hi
  exact Nat.lt_of_mul_lt_mul_right hi
def eW (s:Sl) (n i:Nat):Sl:=⟨aD s.a (i*n) (i*n+min n (s.len - i*n)) 1,min n (s.len - i*n),min n (s.len - i*n)⟩
def nG {α:Type} (l:List α) (n i:Nat):List α:=(l.drop (i*n)).take n
theorem Fa {V:World} {s:Sl} {l:List UInt8} (hs:ao V s l) {n i:Nat} (hn:1≤n) (hi:i*n<l.length):ao V (eW s n i) (nG l n i):=by
 have hl:=hs.len
 have h0:=hs.aP (g:=bv) (fun _=>rfl) hi
 refine ⟨by simp only [eW,nG,List.length_take,List.length_drop];omega,Nat.le_refl _,fun _=>?_,fun j v hj=>?_⟩
 ·exact (qy h0.1:Plain (aD s.a _ _ _))
 ·have eM:j<n∧i*n+j<l.length∧v=bv (l[i*n+j]?.getD 0):=by
   rw [fm] at hj
   obtain ⟨q1,q2⟩:=List.getElem?_eq_some_iff.1 hj
   simp only [nG,List.length_map,List.length_take,List.length_drop] at q1
   refine ⟨aa,aa,?_⟩
   rw [←q2]
   simp only [nG,List.getElem_map,List.getElem_take,List.getElem_drop]
   rw [List.getElem?_eq_getElem aa]
   rfl
  obtain ⟨g1,g2,g3⟩:=eM
  obtain ⟨_,c⟩:=hs.aP (g:=bv) (fun _=>rfl) g2
  simp only [eW]
  rw [qw,qx h0.1 aa,g3,List.getElem?_eq_getElem g2,Nat.add_assoc,Nat.mul_one]
  exact c
def chunks (s:Sl) (n m:Nat):List (List Value):=(List.range m).map fun i=>[(eW s n i).v]
theorem o9 (s:Sl) (n m:Nat):(chunks s n m).length=m:=by simp [chunks]
theorem wJ {s:Sl} {n m k:Nat} (hk:k<m):(chunks s n m)[k]?=some [(eW s n k).v]:=by
 simp [chunks,List.getElem?_map,List.getElem?_range hk]
section
variable {V W:World}
theorem Au (hV:Sub V W) (s:Sl) {n:Nat} (hn:1≤n):aj Tryz.prog 217 [s.v,iv (n:Int)].toArray W fun v w'=>∃b c,v=.func (.func 277) #[] #[.pointer (some ⟨b,0,none⟩),.pointer (some ⟨c,0,none⟩)]∧∃V',Sub V V'∧Rel W V [] V' w'∧bD V' b [s.v] 22∧bD V' c [iv n] 3:=by
 have H:=Rel.start hV
 refine eV Tryz.func217 9 [0,1,2,3,4,6] ?_
 refine wk ?_
 refine H.nA ?_;clear H;intro w b H
 refine wk ?_
 refine H.nA ?_;clear H;intro w c H
 refine wk ?_
 obtain ⟨V1,h1,H,k1⟩:=H.bJ
 obtain ⟨V2,h2,H,k2⟩:=H.bJ
 have Zq:=k1.cells.sG h2
 refine ⟨b,c,rfl,V2,h1.trans h2,H,k2,?_⟩
 exact h2.bt _ _ _ _ k1
theorem As {b c:Nat} {s:Sl} {l:List UInt8} {n m:Nat} (hb:bD V b [s.v] 22) (hc:bD V c [iv n] 3) (hs:ao V s l) (hl:l.length≤1000000000) (hn:1≤n) (hnl:n≤1000000000) (hm:v7 m n l.length) :
  wb Tryz.prog 277 [.pointer (some ⟨b,0,none⟩),.pointer (some ⟨c,0,none⟩)] (chunks s n m) (fun W=>Sub V W):=by
 refine ⟨ph Tryz.func277 rfl ab,?_⟩
 intro L W J Jx hS hJ YJ pV h0
 have hlen:=hs.len
 have nS:=hs.cap
 have tZ:=hb.bt (i:=0) rfl
 have j2:=hc.bt (i:=0) rfl
 refine eV Tryz.func277 31 [0,1,2,4,5,9,30] ?_
 refine wk ?_
 refine aK ad [0,1,2] (fun k:Nat=>[(4,.int .i64 ((k*n:Nat):Int))]) (fun k w'=>k≤m∧J k w') (fun k _=>m - k) 0 ?_
 conv=>whnf
 refine ⟨⟨by simp [get?],trivial⟩,⟨aa,h0⟩,?_⟩
 rintro k w ⟨hk,hj⟩
 have H:=Rel.start (hS _ _ hj)
 by_cases hlt:k<m
 ·have e6:=(hm k).1 hlt
  refine wk ?_
  refine dV 3 [] [0,1,2,3,4,5,6] H ?_;clear H;intro w H
  refine wk ?_
  refine VI ((min n (s.len - k*n):Nat):Int) aa ?_
  refine wk ?_
  have hy:=pV k [(eW s n k).v] w (wJ hlt) (hJ _ _ _ hj H.base)
  have ev:(eW s n k).v=Value.slice (aD s.a (((k*n:Nat):Int)).toNat ((((k*n:Nat):Int))+((min n (s.len - k*n):Nat):Int)).toNat 1) (((((k*n:Nat):Int))+((min n (s.len - k*n):Nat):Int)).toNat - (((k*n:Nat):Int)).toNat) (((((k*n:Nat):Int))+((min n (s.len - k*n):Nat):Int)).toNat - (((k*n:Nat):Int)).toNat):=by
   have e1:(((k*n:Nat):Int)+((min n (s.len - k*n):Nat):Int)).toNat=k*n+min n (s.len - k*n):=aa
   rw [e1,Int.toNat_natCast,show k*n+min n (s.len - k*n) - k*n=min n (s.len - k*n) by omega]
   rfl
  rw [ev] at hy
  refine hy.mono ?_
  rintro r w3 ⟨ht,hf⟩
  clear H
  conv=>whnf
  refine q7 (fun h6=>?_) (fun h6=>?_)
  ·conv=>whnf
   exact .inr (hf (by simpa using h6))
  ·have eM:=ht (by simpa using h6)
   have H:=Rel.start (hS _ _ eM)
   have e3:((k*n:Nat):Int)+(n:Int)=(((k+1)*n:Nat):Int):=by rw [Nat.add_mul];omega
   have rL:k*n≤1000000000:=aa
   refine wk ?_
   rw [e3]
   exact ⟨sB,k+1,sB,⟨aa,eM⟩,aa⟩
 ·have e6:¬k*n<l.length:=fun h=>hlt ((hm k).2 h)
  refine wk ?_
  rw [show k=m by omega,←o9 s n m] at hj
  exact .inl hj
theorem MS (hV:Sub V W) {b c:Nat} {s:Sl} {l:List UInt8} {n m:Nat} (hb:bD V b [s.v] 22) (hc:bD V c [iv n] 3) (hs:ao V s l) (hl:l.length≤1000000000) (hn:1≤n) (hnl:n≤1000000000) (hm:v7 m n l.length) (hm2:m≤1000000) :
  aj Tryz.prog 309 [.slice none 0 0,.func (.func 277) #[] #[.pointer (some ⟨b,0,none⟩),.pointer (some ⟨c,0,none⟩)]].toArray W fun v w'=>∃r:Sl,v=r.v∧Rel W V [.row r 22 1 (((List.range m).map (eW s n)).flatMap cH)] V w':=by
 have H:=Rel.start hV
 refine eV Tryz.func309 13 [0,1,2,4,5,6,7] ?_
 refine wk ?_
 refine H.nA ?_;clear H;intro w b2 H
 refine wk ?_
 replace H:=H.bw 22 1
 have hB:=H.base.size
 refine JY ad rfl (by (conv=>whnf)) (As hb hc hs hl hn hnl hm) ?_ rfl (σ:=Sl) (τ:=Unit)
  (fun k r=>[.row r 22 1 (((List.range k).map (eW s n)).flatMap cH),.al b2 [r.v] 96]) (fun _ _=>rfl)
  (fun k _ _=>k≤m) (fun _ _=>[]) (fun _ _=>rfl) (fun _ _ _=>False) ⟨none,0,0⟩ (Sub.refl _) (by simpa using H) aa ?_ ?_ ?_
 ·intro y hy
  obtain ⟨i,_,rfl⟩:=List.mem_map.1 hy
  rfl
 ·clear H
  rintro L k x w r V3 hx ar hF H
  have hk:k<m:=by
   have:=(List.getElem?_eq_some_iff.1 hx).1
   rwa [o9] at this
  rw [wJ hk] at hx
  cases hx
  conv=>whnf
  refine ⟨rfl,iD.refl _ _,fun w' iK=>?_⟩
  obtain ⟨X,H,hX⟩:=(H.tw rfl hB iK).marks rfl hB
  simp only [List.cons_append,List.nil_append] at H
  clear iK
  generalize w'=w at H hX ⊢
  refine H.wg ?_;clear H;intro _ w H
  refine Rel.dj (f:=cH) (l:=(List.range k).map (eW s n)) (x:=eW s n k) ad rfl rfl rfl rfl rfl ag (fun _=>rfl) (by simp [Value.oneCell']) H (by rw [List.length_map,List.length_range];show (k+1)*24≤_;omega) (by rw [List.length_map,List.length_range];omega) ?_
  clear H
  intro r1 w H
  refine H.wg ?_;clear H;intro w H
  rw [show (List.range k).map (eW s n)++[eW s n k]=(List.range (k+1)).map (eW s n) by rw [List.range_succ,List.map_append];rfl] at H
  exact ⟨hX _ (fun r hr=>H.laid r (by simp [hr])),V3,r1,ar,hk,H.sx⟩
 ·clear H
  rintro D w r V3 ar hF H
  simp only [List.cons_append,List.nil_append] at H
  rw [o9] at H
  refine wk ?_
  refine ⟨H.mark ae,fun w' ht=>?_⟩
  replace H:=H.zE (own':=[.row r 22 1 (((List.range m).map (eW s n)).flatMap cH)]) (by repeat (first|exact List.Sublist.refl _|refine List.Sublist.cons_cons _ ?_|refine List.Sublist.cons _ ?_|exact List.nil_sublist _)) rfl (by simp;rfl) ht
  generalize w'=w at H
  refine wk ?_
  exact ⟨r,rfl,H.less (Sub.refl _) ar⟩
 ·rintro D c w t V3 ar hF
  exact hF.elim
theorem NO (hV:Sub V W) {b c:Nat} {s:Sl} {l:List UInt8} {n m:Nat} (hb:bD V b [s.v] 22) (hc:bD V c [iv n] 3) (hs:ao V s l) (hl:l.length≤1000000000) (hn:1≤n) (hnl:n≤1000000000) (hm:v7 m n l.length) (hm2:m≤1000000) :
  aj Tryz.prog 275 [.func (.func 277) #[] #[.pointer (some ⟨b,0,none⟩),.pointer (some ⟨c,0,none⟩)]].toArray W fun v w'=>∃r:Sl,v=r.v∧Rel W V [.row r 22 1 (((List.range m).map (eW s n)).flatMap cH)] V w':=by
 have H:=Rel.start hV
 refine eV Tryz.func275 5 [0,2] ?_
 refine wk ?_
 refine (MS H.data hb hc hs hl hn hnl hm hm2).use ?_
 rintro v w ⟨r,rfl,K⟩
 (replace H:=Rel.call H K)
 simp only [List.append_nil] at H
 refine wk ?_
 exact ⟨r,rfl,H⟩
structure mg {α:Type} (l:List α) (k:Nat) (L:List α):Prop where
 len:L.length=l.length
 out:∀i,i<l.length→(i<k∨l.length<i+1+k)→L[i]?=l[l.length - 1 - i]?
 mid:∀i,k≤i→i+1+k≤l.length→L[i]?=l[i]?
theorem mg.start {α:Type} (l:List α):mg l 0 l:=⟨rfl,fun i h1 h2=>by omega,fun i _ _=>rfl⟩
theorem mg.done {α:Type} {l L:List α} {k:Nat} (R:mg l k L) (h:l.length≤2*k+1) (hk:2*k≤l.length+1):L=l.reverse:=by
 refine List.ext_getElem? fun i=>?_
 by_cases hi:i<l.length
 ·rw [List.getElem?_reverse hi]
  by_cases ho:i<k∨l.length<i+1+k
  ·exact R.out i hi ho
  ·rw [R.mid i aa aa,show l.length - 1 - i=i by omega]
 ·rw [List.getElem?_eq_none (by rw [R.len];omega),List.getElem?_eq_none (by simp;omega)]
theorem mg.step {α:Type} {l L:List α} {k:Nat} (R:mg l k L) (h:2*k+1<l.length) {x y:α} (hx:L[k]?=some x) (hy:L[l.length - 1 - k]?=some y):mg l (k+1) ((L.set k y).set (l.length - 1 - k) x):=by
 have hL:=R.len
 have e1:l[k]?=some x:=by rw [←R.mid k (Nat.le_refl _) aa];exact hx
 have e2:l[l.length - 1 - k]?=some y:=by rw [←R.mid _ aa aa];exact hy
 refine ⟨by simp [hL],fun i hi ho=>?_,fun i h1 h2=>?_⟩
 ·rw [List.getElem?_set,List.length_set,List.getElem?_set]
  by_cases ha:l.length - 1 - k=i
  ·rw [if_pos ha,if_pos aa,show l.length - 1 - i=k by omega,e1]
  ·rw [if_neg ha]
   by_cases hb:k=i
   ·rw [if_pos hb,if_pos aa,←hb,e2]
   ·rw [if_neg hb]
    exact R.out i hi aa
 ·rw [List.getElem?_set_ne aa,List.getElem?_set_ne aa]
  exact R.mid i aa aa
theorem KC (l:List Sl) (j:Nat) (x:Sl):(l.flatMap cH).set j x.v=(l.set j x).flatMap cH:=by
 have e:∀l:List Sl,l.flatMap cH=l.map Sl.v:=fun l=>by induction l with|nil=>rfl|cons _ _ ih=>simp [List.flatMap_cons,ih]
 rw [e,e,List.map_set]
theorem U6 {w0 V0:World} {own:List ak} {s:Sl} {l:List Sl} (H:Rel w0 V0 (.row s 22 1 (l.flatMap cH)::own) V W) (hl:l.length≤1000000) :
  aj Tryz.prog 276 [s.v].toArray W fun v w'=>Rel w0 V0 (.row s 22 1 (l.reverse.flatMap cH)::own) V w':=by
 have hlen:s.len=l.length:=H.dz (i:=0) rfl (fun _=>rfl) ag
 refine eV Tryz.func276 28 [0,2,3,9] ?_
 refine wk ?_
 refine aK (S:=Nat×List Sl) ad [0] (fun q=>[(2,iv q.1),(3,iv ((l.length:Int) - 1 - q.1))]) (fun q w'=>mg l q.1 q.2∧2*q.1≤l.length+1∧Rel w0 V0 (.row s 22 1 (q.2.flatMap cH)::own) V w') (fun q _=>l.length+1 - 2*q.1) (0,l) ?_
 conv=>whnf
 refine ⟨⟨rfl,by rw [hlen];simp [get?],trivial⟩,⟨mg.start l,aa,H⟩,?_⟩
 clear H
 rintro ⟨k,L⟩ w ⟨R,hk,H⟩
 dsimp only at R hk H ⊢
 have hL:=R.len
 by_cases hlt:2*k+1<l.length
 ·refine wk ?_
  refine dV 3 [] [0,1,2,3,4,5,6,7,8,9,10,11,12,13,14,15] H ?_;clear H;intro w H
  have S5:=H.dO (i:=0) rfl (fun _=>rfl) ag
  obtain ⟨p1,c1⟩:=S5.aP (g:=Sl.v) (fun _=>rfl) (show k<L.length by omega)
  obtain ⟨p2,c2⟩:=S5.aP (g:=Sl.v) (fun _=>rfl) (show l.length - 1 - k<L.length by omega)
  have Nj:w.cell? ⟨aN s.a,aI s.a+((l.length:Int) - 1 - k).toNat,none⟩=some (L[l.length - 1 - k]'aa).v:=by
   rw [show ((l.length:Int) - 1 - k).toNat=l.length - 1 - k by omega]
   exact c2
  refine wk ?_
  refine Rel.KN (i:=0) H rfl k aa rfl rfl ?_
  clear H
  intro w H
  simp only [List.set_cons_zero] at H
  rw [KC] at H
  refine wk ?_
  refine Rel.KN (i:=0) H rfl (l.length - 1 - k) aa rfl (by
   rw [show ((l.length:Int) - 1 - k).toNat=l.length - 1 - k by omega]
   rfl) ?_
  clear H
  intro w H
  simp only [List.set_cons_zero] at H
  rw [KC] at H
  refine wk ?_
  refine ⟨sB,(k+1,_),?_,⟨R.step hlt (List.getElem?_eq_getElem aa) (List.getElem?_eq_getElem aa),by dsimp only;omega,H⟩,by dsimp only;omega⟩
  exact ⟨by simp [get?],by simp only [get?];congr 2;omega,trivial⟩
 ·refine wk ?_
  rw [←R.done aa hk]
  exact H
end
theorem Pw.rev {α β:Type} {R:World→β→α→Prop} {V:World} {xs:List β} {ys:List α} (h:Pw R V xs ys):Pw R V xs.reverse ys.reverse:=by
 have hl:=h.len
 refine ⟨by simp [hl],fun k x y hx hy=>?_⟩
 have hk:k<xs.length:=by simpa using (List.getElem?_eq_some_iff.1 hx).1
 rw [List.getElem?_reverse hk] at hx
 rw [List.getElem?_reverse aa,←hl] at hy
 exact h.all _ x y hx hy
section
variable {V W:World}
theorem NI {s:Sl} {l:List UInt8} {n h:Nat} (hs:ao V s l) (hn:1≤n) (hl:l.length=h*n):Pw lq V ((List.range h).map (eW s n)) (cG n h l):=by
 refine ⟨by simp [cG],fun k x y hx hy=>?_⟩
 have hk:k<h:=by simpa using (List.getElem?_eq_some_iff.1 hx).1
 rw [List.getElem?_map,List.getElem?_range hk] at hx
 rw [Kg hk] at hy
 cases hx
 cases hy
 exact Fa hs hn (by rw [hl];exact (wK hn k).1 hk)
theorem U7 (hV:Sub V W) {s:Sl} {l:List UInt8} (hs:ao V s l) {n h:Nat} (hn:1≤n) (hn2:n≤100000) (hh:h≤100000) (hl:l.length=h*n) (hl2:l.length≤1000000) :
  aj Tryz.prog 216 [s.v,iv (n:Int)].toArray W fun v w'=>∃r:Sl,v=r.v∧Rel W V [.row r 5 1 ((cG n h l).reverse.flatten.flatMap ay)] V w':=by
 have H:=Rel.start hV
 refine eV Tryz.func216 14 [0,1,4,5] ?_
 refine wk ?_
 refine (Au H.data s hn).use ?_
 rintro v w ⟨b,c,rfl,V2,hV2,K,hb,hc⟩
 (replace H:=H.aq K)
 refine wk ?_
 refine (NO (m:=h) H.data hb hc (hs.up hV2) aa hn aa (by rw [hl];exact wK hn) aa).use ?_
 rintro v w ⟨r,rfl,K⟩
 (replace H:=Rel.call H K)
 simp only [List.append_nil] at H
 refine wk ?_
 refine (U6 H (by simp;omega)).use ?_
 clear K H
 rintro v w H
 obtain ⟨V3,ar,H,hr⟩:=Rel.aJ H (fun _=>rfl) ag
 have cS:(cG n h l).reverse.flatten.length≤1000000:=by
  rw [Pk,DE hl]
  exact hl2
 refine wk ?_
 refine (tt H.data hr ((NI ((hs.up hV2).up ar) hn hl).rev) (by simp [cG];omega) aa).use ?_
 rintro v w ⟨r2,rfl,K⟩
 (replace H:=Rel.call H K)
 simp only [List.append_nil] at H
 refine wk ?_
 exact ⟨r2,rfl,H.less (Sub.refl _) (hV2.trans ar)⟩
theorem ME {α β:Type} {g:α→Option β} {l:List α} {k:Nat} {R:List β} {y:β} (hk:k<l.length) (h:allM g (l.take k)=some R) (hy:g l[k]=some y):allM g (l.take (k+1))=some (R++[y]):=by
 rw [List.take_succ_eq_append_getElem hk]
 exact MD h hy
theorem DD {f w h:Nat} {aA:List aW} (hf:f<64) (hp:jg f aA) {d:List UInt8} (hd:d.length=h*rowOf f w) {k:Nat} {R:List (List UInt8)} (hR:allM (mX f aA w) ((cG (rowOf f w) h d).take k)=some R):R.length≤h∧∀r∈R,r.length=3*w:=by
 obtain ⟨h1,h2⟩:=te hR
 rw [List.length_take,mZ] at h1
 refine ⟨aa,fun r hr=>?_⟩
 obtain ⟨i,hi,rfl⟩:=List.mem_iff_getElem.1 hr
 have hy:((cG (rowOf f w) h d).take k)[i]?=some (((cG (rowOf f w) h d).take k)[i]'(by rw [List.length_take,mZ];omega)):=List.getElem?_eq_getElem _
 exact (L6 hf hp (DF hd (List.mem_of_mem_take (List.mem_of_getElem? hy))) (h2 i _ _ hy (List.getElem?_eq_getElem hi))).1
structure Mw (W V:World) (o:Option (List UInt8)) (v:Value) (w':World):Prop where
 ex:∃(V':World) (r:Sl),Sub V V'∧Rel W V [] V' w'∧(match o with
  | none=>v=.tuple #[.slice none 0 0,.bool false]
  | some x=>v=.tuple #[r.v,.bool true]∧ao V' r x)
theorem UG (hV:Sub V W) {f:Nat} (hf:f<64) {ps:Sl} {aA:List aW} (hp:jL V ps aA) (hpo:jg f aA) {s:Sl} {B:List UInt8} (hs:ao V s B) (hl:B.length≤70000) {wd ht:Nat} (hw0:1≤wd) (hw:wd≤64) (hh:ht≤64) :
  aj Tryz.prog 211 [.agg (gE f ps).toArray,s.v,iv (wd:Int),iv (ht:Int)].toArray W (Mw W V (so f aA wd ht B)):=by
 have H:=Rel.start hV
 have hlen:=hs.len
 have Hq:=Ai f
 have hro:rowOf f wd≤200:=by
  unfold rowOf
  have:wd*bitsOf f≤64*24:=Nat.mul_le_mul hw Hq.2
  omega
 have hr1:1≤rowOf f wd:=by
  unfold rowOf
  have:1*1≤wd*bitsOf f:=Nat.mul_le_mul hw0 Hq.1
  omega
 have hmul:((rowOf f wd:Nat):Int)*(ht:Int)=((rowOf f wd*ht:Nat):Int):=(Int.natCast_mul _ _).symm
 have BZ:rowOf f wd*ht≤200*64:=Nat.mul_le_mul hro hh
 refine nE ad Tryz.func211 rfl ab 60 rfl ae [0,1,2,3,4,6,8,9,10,11,12,13,14,15,26,36,39,40,49,54] ?_
 refine aB.cc ad ?_
 refine wk ?_
 refine H.nA ?_;clear H;intro w b4 H
 refine wk ?_
 refine H.nA ?_;clear H;intro w b6 H
 refine wk ?_
 refine H.nA ?_;clear H;intro w b8 H
 refine wk ?_
 refine H.nA ?_;clear H;intro w b9 H
 refine wk ?_
 refine aB.cc ad ?_
 refine wk ?_
 refine (U9 H.data hf ps hw).use ?_
 rintro q w ⟨rfl,K⟩
 (replace H:=H.aq K)
 refine wk ?_
 refine aB.cc ad ?_
 refine wk ?_
 refine aB.lZ ad (fun q:Sl×Bool=>[(1,q.1.v),(3,iv ht),(4,.pointer (some ⟨b4,0,none⟩)),(6,.pointer (some ⟨b6,0,none⟩)),(8,.pointer (some ⟨b8,0,none⟩)),(9,.pointer (some ⟨b9,0,none⟩)),(10,iv (rowOf f wd:Nat)),(11,.bool q.2)])
  (fun q w'=>∃V2,Sub V V2∧Rel W V [.al b9 [.bool false] 4,.al b8 [.slice none 0 0] 22,.al b6 [iv wd] 3,.al b4 (gE f ps) 160] V2 w'∧(match mY f (rowOf f wd*ht) B with
   | none=>q.2=false
   | some d=>q.2=true∧ao V2 q.1 d)) ?_ ?_
 ·refine wk ?_
  refine (P7 H.data aa ps).use ?_
  rintro q w ⟨rfl,K⟩
  (replace H:=H.aq K)
  unfold mY
  by_cases e8:f / 2%2=1
  ·rw [decide_eq_true e8,if_pos e8]
   refine wk ?_
   rw [hmul]
   refine (Xz H.data hs aa aa).use ?_
   rintro v w ⟨V2,r,hV2,K,hk⟩
   (replace H:=H.aq K)
   cases hu:jI B (rowOf f wd*ht) with
   | none =>
    rw [hu] at hk
    obtain rfl:=hk
    refine wk ?_
    exact ⟨(r,false),sB,V2,hV2,H.sx,rfl⟩
   | some d =>
    rw [hu] at hk
    obtain ⟨rfl,hr⟩:=hk
    refine wk ?_
    exact ⟨(r,true),sB,V2,hV2,H.sx,rfl,hr⟩
  ·rw [decide_eq_false e8,if_neg e8]
   by_cases hsz:B.length=rowOf f wd*ht
   ·rw [if_pos hsz]
    refine wk ?_
    exact ⟨(s,true),⟨rfl,rfl,rfl,rfl,rfl,rfl,rfl,congrArg (fun b=>some (Value.bool b)) (decide_eq_true aa),trivial⟩,V,Sub.refl _,H.sx,rfl,hs⟩
   ·rw [if_neg hsz]
    refine wk ?_
    exact ⟨(s,false),⟨rfl,rfl,rfl,rfl,rfl,rfl,rfl,congrArg (fun b=>some (Value.bool b)) (decide_eq_false aa),trivial⟩,V,Sub.refl _,H.sx,rfl⟩
 clear H
 rintro ⟨q0,k⟩ w ⟨V2,hV2,H,hk⟩
 dsimp only at H hk
 unfold so
 refine aB.go ad ?_
 cases hd:mY f (rowOf f wd*ht) B with
 | none =>
  rw [hd] at hk
  obtain rfl:=hk
  refine H.wg ?_;clear H;intro _ w H
  exact ⟨V2,⟨none,0,0⟩,hV2,H.sx,rfl⟩
 | some d =>
  rw [hd] at hk
  obtain ⟨rfl,hq0⟩:=hk
  dsimp only
  refine wk ?_
  refine H.nA ?_;clear H;intro w oW H
  have hdl:d.length=ht*rowOf f wd:=by rw [Kf hd,Nat.mul_comm]
  have HC:d.length≤20000:=by rw [hdl];have:=Nat.mul_le_mul hh hro;omega
  refine wk ?_
  refine (Au H.data q0 (n:=rowOf f wd) hr1).use ?_
  rintro v w ⟨b,c,rfl,V3,ar,K,hb,hc⟩
  (replace H:=H.aq K)
  refine wk ?_
  have hB:=H.base.size
  replace H:=H.bw 5 1
  have dY:=hV2.trans ar
  refine JY ad rfl (by (conv=>whnf)) (As (m:=ht) hb hc (hq0.up ar) aa hr1 aa (by rw [hdl];exact wK hr1)) ?_ rfl (σ:=Sl×List (List UInt8)) (τ:=Unit)
   (fun k q=>[.row q.1 5 1 (q.2.flatten.flatMap ay),.al oW [q.1.v] 22,.al b9 [.bool false] 4,.al b8 [.slice none 0 0] 22,.al b6 [iv wd] 3,.al b4 (gE f ps) 160]) (fun _ _=>rfl)
   (fun k q _=>allM (mX f aA wd) ((cG (rowOf f wd) ht d).take k)=some q.2)
   (fun _ _=>[.al b9 [.bool false] 4,.al b8 [.slice none 0 0] 22]) (fun _ _=>rfl) (fun c _ _=>c=.ret∧qp f aA wd ht d=none) (⟨none,0,0⟩,[]) (Sub.refl _) H.sx rfl ?_ ?_ ?_
  ·intro y hy
   obtain ⟨i,_,rfl⟩:=List.mem_map.1 hy
   rfl
  ·clear H
   rintro L k x w ⟨r,R⟩ V4 hx av hF H
   have hk:k<ht:=by
    have:=(List.getElem?_eq_some_iff.1 hx).1
    rwa [o9] at this
   rw [wJ hk] at hx
   cases hx
   conv=>whnf
   refine ⟨rfl,iD.refl _ _,fun w' iK=>?_⟩
   obtain ⟨X,H,hX⟩:=(H.tw rfl hB iK).marks rfl hB
   simp only [List.cons_append,List.nil_append] at H
   dsimp only at hF H
   clear iK
   generalize w'=w at H hX ⊢
   have rL:k*rowOf f wd<d.length:=by rw [hdl];exact (wK hr1 k).1 hk
   have hch:=Fa ((hq0.up ar).up av) hr1 rL
   have Rh:(nG d (rowOf f wd) k).length=rowOf f wd:=by
    have hm:nG d (rowOf f wd) k∈cG (rowOf f wd) ht d:=List.mem_map.2 ⟨k,List.mem_range.2 hk,rfl⟩
    exact DF hdl hm
   obtain ⟨mz,Bq⟩:=DD hf hpo hdl hF
   have cS:=(xg Bq).1
   have QF:R.flatten.length≤20000:=by rw [cS];have:=Nat.mul_le_mul (Nat.le_trans mz hh) (show 3*wd≤192 by omega);omega
   refine wk ?_
   refine (UF H.data hf ((hp.up dY).up av) hpo hch hw Rh).use ?_
   rintro v w2 ⟨V5,r5,aF,K,hres⟩
   (replace H:=H.aq K)
   have e6:k<(cG (rowOf f wd) ht d).length:=by rw [mZ];exact hk
   have dG:(cG (rowOf f wd) ht d)[k]=nG d (rowOf f wd) k:=by
    have:=Kg (s:=rowOf f wd) (l:=d) hk
    rw [List.getElem?_eq_getElem e6] at this
    exact Option.some.inj this
   cases jx:mX f aA wd (nG d (rowOf f wd) k) with
   | none =>
    rw [jx] at hres
    obtain rfl:=hres
    have hno:qp f aA wd ht d=none:=by
     unfold qp
     rw [EM (List.getElem_mem e6) (by rw [dG];exact jx)]
    refine H.wg ?_;clear H;intro _ w H
    exact ⟨hX _ (fun r hr=>H.laid r (by simp [hr])),V5,(),av.trans aF,⟨rfl,hno⟩,H.sx⟩
   | some px =>
    rw [jx] at hres
    obtain ⟨rfl,j7⟩:=hres
    have Hb:=ME e6 hF (by rw [dG];exact jx)
    have hpl:=(DD hf hpo hdl Hb).2 px ae
    refine wk ?_
    refine Rel.gn H (i:=0) rfl j7 aa ?_
    clear H
    intro r1 w H
    simp only [List.set_cons_zero] at H
    refine H.wg ?_;clear H;intro w H
    refine ⟨hX _ (fun r hr=>H.laid r (by simp [hr])),V5,(r1,R++[px]),av.trans aF,Hb,?_⟩
    rw [List.flatten_append,List.flatten_singleton]
    exact H.sx
  ·clear H
   rintro D w ⟨r,R⟩ V4 av hF H
   simp only [List.cons_append,List.nil_append] at H
   rw [o9,List.take_of_length_le (by rw [mZ];omega)] at hF
   dsimp only at hF H
   have jx:qp f aA wd ht d=some (turn f R).flatten:=by unfold qp;rw [hF]
   have Ha:=hF
   rw [←List.take_of_length_le (l:=cG (rowOf f wd) ht d) (i:=ht) (by rw [mZ];omega)] at Ha
   obtain ⟨mz,Bq⟩:=DD hf hpo hdl Ha
   have PV:R.length=ht:=by rw [(te hF).1,mZ]
   have hfr:=xg Bq
   rw [PV] at hfr
   have QF:R.flatten.length≤20000:=by rw [hfr.1];have:=Nat.mul_le_mul hh (show 3*wd≤192 by omega);omega
   rw [jx]
   obtain ⟨V5,aF,H,j7⟩:=Rel.aJ H (fun _=>rfl) ag
   refine wk ?_
   refine (P6 H.data aa ps).use ?_
   rintro q w ⟨rfl,K⟩
   (replace H:=H.aq K)
   by_cases xY:f%2=1
   ·rw [decide_eq_true xY]
    refine wk ?_
    rw [show 3*(wd:Int)=((3*wd:Nat):Int) by omega]
    refine (U7 (h:=ht) H.data j7 aa aa aa hfr.1 aa).use ?_
    rintro v w ⟨r6,rfl,K⟩
    (replace H:=Rel.call H K)
    simp only [List.cons_append,List.nil_append] at H
    rw [hfr.2] at H
    obtain ⟨V6,bL,H,Ie⟩:=Rel.aJ H (fun _=>rfl) ag
    refine H.wg ?_;clear H;intro _ _ w H
    refine ⟨H.mark ae,fun w' iK=>?_⟩
    replace H:=H.zE (own':=[.al b9 [.bool true] 4,.al b8 [r6.v] 22]) (by repeat (first|exact List.Sublist.refl _|refine List.Sublist.cons_cons _ ?_|refine List.Sublist.cons _ ?_|exact List.nil_sublist _)) rfl (by simp;rfl) iK
    generalize w'=w at H
    refine wk ?_
    refine ⟨V6,r6,(((dY.trans av).trans aF).trans bL),H.sx,rfl,?_⟩
    unfold turn
    rw [if_pos xY]
    exact Ie
   ·rw [decide_eq_false xY]
    refine H.wg ?_;clear H;intro _ w H
    refine ⟨H.mark ae,fun w' iK=>?_⟩
    replace H:=H.zE (own':=[.al b9 [.bool true] 4,.al b8 [r.v] 22]) (by repeat (first|exact List.Sublist.refl _|refine List.Sublist.cons_cons _ ?_|refine List.Sublist.cons _ ?_|exact List.nil_sublist _)) rfl (by simp;rfl) iK
    generalize w'=w at H
    refine wk ?_
    refine ⟨V5,r,((dY.trans av).trans aF),H.sx,rfl,?_⟩
    unfold turn
    rw [if_neg xY]
    exact j7
  ·clear H
   rintro D c w i V4 av ⟨rfl,hno⟩ H
   simp only [List.cons_append,List.nil_append] at H
   rw [hno]
   refine wk ?_
   refine ⟨H.mark ae,fun w' iK=>?_⟩
   replace H:=H.zE (own':=[.al b9 [.bool false] 4,.al b8 [.slice none 0 0] 22]) (by repeat (first|exact List.Sublist.refl _|refine List.Sublist.cons_cons _ ?_|refine List.Sublist.cons _ ?_|exact List.nil_sublist _)) rfl (by simp;rfl) iK
   generalize w'=w at H
   refine wk ?_
   exact ⟨V4,⟨none,0,0⟩,dY.trans av,H.sx,rfl⟩
end
structure Mn (W V:World) (o:Option kz) (v:Value) (w':World):Prop where
 ex:∃(V':World) (a b:Int) (f:Nat) (r ps:Sl),Sub V V'∧Rel W V [] V' w'∧(match o with
  | none=>v=.tuple #[iv a,iv b,r.v,.agg (gE f ps).toArray,.bool false]
  | some x=>v=.tuple #[iv x.wd,iv x.ht,r.v,.agg (gE x.f ps).toArray,.bool true]∧ao V' r x.px∧jL V' ps x.aA)
theorem TZ {b:List UInt8} (h:b.take 4≠vg):jB b=none:=by unfold jB;rw [if_neg h]
theorem T0 {b:List UInt8} (h:(b.drop 4).length<3):jB b=none:=by
 unfold jB
 split
 ·split
  ·rename_i he
   rw [he] at h
   simp at h
   omega
  ·rfl
 ·rfl
theorem TY {b:List UInt8} (h:b.take 4=vg) {f w t:UInt8} {l:List UInt8} (he:b.drop 4=f::w::t::l):jB b=yN f.toNat w.toNat t.toNat l:=by
 unfold jB
 rw [if_pos h,he]
section
variable {V W:World}
theorem UL (hV:Sub V W) {s:Sl} {l:List UInt8} (hs:ao V s l) (hl:l.length≤1000):aj Tryz.prog 132 [s.v].toArray W (Mn W V (jB l)):=by
 have H:=Rel.start hV
 refine nE ad Tryz.func132 rfl ab 107 rfl ae [0,2,3,4,5,6,7,21,57,60,71,91] ?_
 refine aB.cc ad ?_
 refine wk ?_
 refine H.nA ?_;clear H;intro w b5 H
 refine wk ?_
 refine aB.cc ad ?_
 refine wk ?_
 refine H.nA ?_;clear H;intro w bm H
 refine wk ?_
 refine Rel.tv (l:=[82,65,83,49]) Tryz.underlying22 Tryz.underlying5 H rfl ?_
 clear H
 intro V1 w hV1 hm H
 refine wk ?_
 refine (tx H.data (hs.up hV1) hm).use ?_
 rintro v w ⟨⟨r,rfl,hr⟩,K⟩
 (replace H:=H.aq K)
 have BV:([82,65,83,49]:List UInt8).length=4:=rfl
 rw [BV] at hr ⊢
 refine wk ?_
 by_cases hp:l.take 4=vg
 rotate_left
 ·rw [TZ hp,decide_eq_false hp]
  refine aB.cc ad ?_
  refine H.wg ?_;clear H;intro w H
  exact ⟨_,_,_,0,⟨none,0,0⟩,⟨none,0,0⟩,hV1,H.sx,rfl⟩
 rw [decide_eq_true hp]
 replace hr:=hr hp
 have hrl:=hr.len
 by_cases h3:(l.drop 4).length<3
 ·rw [T0 h3]
  refine aB.cc ad ?_
  refine H.wg ?_;clear H;intro w H
  exact ⟨_,_,_,0,⟨none,0,0⟩,⟨none,0,0⟩,hV1,H.sx,rfl⟩
 obtain ⟨x0,x1,x2,T,hL⟩:∃x0 x1 x2 T,l.drop 4=x0::x1::x2::T:=by
  match hd:l.drop 4,h3 with
  | x0::x1::x2::T,_=>exact ⟨x0,x1,x2,T,rfl⟩
  | [],h=>simp at h
  | [_],h=>simp at h
  | [_,_],h=>simp at h
 have YQ:T.length+7≤1000:=by
  have:=congrArg List.length hL
  simp at this
  omega
 rw [hL] at hr hrl
 rw [TY hp hL]
 have z0:=x0.toNat_lt
 have z1:=x1.toNat_lt
 have z2:=x2.toNat_lt
 obtain ⟨p0,c0⟩:=hr.aP (g:=bv) (i:=0) (fun _=>rfl) ae
 obtain ⟨p1,c1⟩:=hr.aP (g:=bv) (i:=1) (fun _=>rfl) ae
 obtain ⟨p2,c2⟩:=hr.aP (g:=bv) (i:=2) (fun _=>rfl) ae
 simp only [List.getElem_cons_zero,List.getElem_cons_succ] at c0 c1 c2
 have fu:=hr.cap
 simp only [List.length_cons] at hrl
 have ht:=hr.rest (k:=3) ae
 simp only [List.drop_succ_cons,List.drop_zero] at ht
 refine aB.cc ad ?_
 refine wk ?_
 refine aB.cc ad ?_
 (first|refine nK (id:=4) ad mixed (dD [b5]) (fun _ _ _=>dD.trans) [13] [6,7,10,11] [0,1,2,3,4,5,6,7,8,9,10,11,12,13,14,15] ab ?_);intro w aG;replace H:=Rel.ext H aG.ext
 repeat ((refine wk ?_);(refine And.intro (fun w1 mN=>?_) ?_;focus (obtain ⟨_,H1⟩:=Rel.vw H (i:=0) rfl rfl mN;clear H;have H:=H1;clear H1;((repeat ((conv=>whnf);first|refine an ?_|((first|refine H.qf ?_|refine H.nw ?_);clear H;intro w _ H)|refine H.ce ?_|refine H.db ?_|refine ea ?_|refine ol ?_|(refine H.st ?_;(conv=>whnf);clear H;intro w H)|refine cT ?_|refine cF ?_|refine cN ?_|refine cM ?_|refine H.lw ?_|refine H.ll ?_));(conv=>whnf));try exact ⟨rfl,rfl⟩)))
 refine wk ?_
 refine Rel.vD H (i:=0) rfl ?_;(conv=>whnf);clear H;intro w H
 refine wk ?_
 refine aB.cc ad ?_
 refine wk ?_
 refine aB.cc ad ?_
 refine wk ?_
 refine (XI x0.toNat w z0).use ?_
 rintro v w' ⟨rfl,rfl⟩
 unfold yN
 by_cases hk:mv x0.toNat∧kn x1.toNat∧kn x2.toNat
 rotate_left
 ·rw [if_neg hk]
  unfold mv kn at hk
  by_cases rJ:x0.toNat<64∧x0.toNat%16<4
  rotate_left
  ·rw [decide_eq_false rJ]
   refine H.wg ?_;clear H;intro w H
   exact ⟨_,_,_,0,⟨none,0,0⟩,⟨none,0,0⟩,hV1,H.sx,rfl⟩
  rw [decide_eq_true rJ]
  by_cases q1:x1.toNat<1
  ·refine H.wg ?_;clear H;intro w H
   exact ⟨_,_,_,0,⟨none,0,0⟩,⟨none,0,0⟩,hV1,H.sx,rfl⟩
  by_cases q2:64<x1.toNat
  ·refine H.wg ?_;clear H;intro w H
   exact ⟨_,_,_,0,⟨none,0,0⟩,⟨none,0,0⟩,hV1,H.sx,rfl⟩
  by_cases q3:x2.toNat<1
  ·refine H.wg ?_;clear H;intro w H
   exact ⟨_,_,_,0,⟨none,0,0⟩,⟨none,0,0⟩,hV1,H.sx,rfl⟩
  ·refine H.wg ?_;clear H;intro w H
   exact ⟨_,_,_,0,⟨none,0,0⟩,⟨none,0,0⟩,hV1,H.sx,rfl⟩
 rw [if_pos hk]
 obtain ⟨rJ,⟨w1,w2⟩,h1,h2⟩:=hk
 unfold mv at rJ
 rw [decide_eq_true rJ]
 refine wk ?_
 refine aB.lZ ad (fun q:Sl×Sl=>[(2,iv (x1.toNat:Nat)),(3,iv (x2.toNat:Nat)),(4,.slice none 0 0),(5,.pointer (some ⟨b5,0,none⟩)),(6,.bool true),(7,q.1.v)])
  (fun q w'=>∃V2 aA T2,Sub V1 V2∧Rel W V [.al b5 (gE x0.toNat q.2) 160] V2 w'∧oL x0.toNat T=some (aA,T2)∧ao V2 q.1 T2∧jL V2 q.2 aA) ?_ ?_
 ·refine wk ?_
  refine (IC H.data z0 ⟨none,0,0⟩).use ?_
  rintro q w ⟨rfl,K⟩
  (replace H:=H.aq K)
  unfold oL
  by_cases h32:x0.toNat<32
  ·rw [decide_eq_true h32,if_pos h32]
   refine wk ?_
   refine (wU H.data z0 ⟨none,0,0⟩).use ?_
   rintro q w ⟨rfl,K⟩
   (replace H:=H.aq K)
   refine wk ?_
   refine (UD H.data ht aa h32).use ?_
   rintro q w ⟨V2,rp,t,hV2,K,hk⟩
   (replace H:=H.aq K)
   cases hpl:gT x0.toNat T with
   | none =>
    rw [hpl] at hk
    obtain rfl:=hk
    refine H.wg ?_;clear H;intro _ w H
    exact ⟨_,_,_,0,⟨none,0,0⟩,⟨none,0,0⟩,hV1.trans hV2,H.sx,rfl⟩
   | some y =>
    obtain ⟨aA,T2⟩:=y
    rw [hpl] at hk
    obtain ⟨rfl,nZ,kR⟩:=hk
    refine H.wg ?_;clear H;intro w H
    exact ⟨(t,rp),sB,V2,aA,T2,hV2,H.sx,rfl,kR,nZ⟩
  ·rw [decide_eq_false h32,if_neg h32]
   refine wk ?_
   exact ⟨(_,⟨none,0,0⟩),sB,V1,[],T,Sub.refl _,H.sx,rfl,ht,aw.nil _ _⟩
 clear H
 rintro ⟨q,rp⟩ w ⟨V2,aA,T2,hV2,H,pZ,hq,nZ⟩
 dsimp only at H hq nZ
 have hpo:=(DW pZ).2
 rw [pZ]
 have dI:=hq.len
 have tU:T2.length≤T.length:=by
  have:=congrArg List.length (DW pZ).1
  simp at this
  omega
 refine aB.go ad ?_
 dsimp only
 have dY:=hV1.trans hV2
 match T2,hq,dI,tU,pZ with
 | [],hq,dI,tU,pZ =>
  rw [List.length_nil] at dI
  refine wk ?_
  (first|refine dV 4 [13] [0,1,2,3,4,5,6,7,8,9,10,11,12,13,14,15] H ?_|refine dV 12 [] [0,1,2,3,4,5,6,7,8,9,10,11,12,13,14,15,16,17,18] H ?_|refine dV 14 [] [0,1,2,3,4,5,6,7,8,9,10] H ?_|refine dV 15 [] [0,1,2,3,4,5,6,7,8,9] H ?_);clear H;intro w H
  refine H.wg ?_;clear H;intro w H
  exact ⟨_,_,_,0,⟨none,0,0⟩,⟨none,0,0⟩,dY,H.sx,rfl⟩
 | [_],hq,dI,tU,pZ =>
  rw [List.length_singleton] at dI
  refine wk ?_
  (first|refine dV 4 [13] [0,1,2,3,4,5,6,7,8,9,10,11,12,13,14,15] H ?_|refine dV 12 [] [0,1,2,3,4,5,6,7,8,9,10,11,12,13,14,15,16,17,18] H ?_|refine dV 14 [] [0,1,2,3,4,5,6,7,8,9,10] H ?_|refine dV 15 [] [0,1,2,3,4,5,6,7,8,9] H ?_);clear H;intro w H
  refine H.wg ?_;clear H;intro w H
  exact ⟨_,_,_,0,⟨none,0,0⟩,⟨none,0,0⟩,dY,H.sx,rfl⟩
 | x::y::B,hq,dI,tU,pZ =>
  simp only [List.length_cons] at dI tU
  obtain ⟨p0,c0⟩:=hq.aP (g:=bv) (i:=0) (fun _=>rfl) ae
  obtain ⟨p1,c1⟩:=hq.aP (g:=bv) (i:=1) (fun _=>rfl) ae
  simp only [List.getElem_cons_zero,List.getElem_cons_succ] at c0 c1
  have hx:=x.toNat_lt
  have hy:=y.toNat_lt
  have fZ:=qg hx hy
  have xV:=hq.cap
  have hb:=hq.rest (k:=2) ae
  simp only [List.drop_succ_cons,List.drop_zero] at hb
  refine wk ?_
  (first|refine dV 4 [13] [0,1,2,3,4,5,6,7,8,9,10,11,12,13,14,15] H ?_|refine dV 12 [] [0,1,2,3,4,5,6,7,8,9,10,11,12,13,14,15,16,17,18] H ?_|refine dV 14 [] [0,1,2,3,4,5,6,7,8,9,10] H ?_|refine dV 15 [] [0,1,2,3,4,5,6,7,8,9] H ?_);clear H;intro w H
  refine wk ?_
  rw [k9]
  refine wk ?_
  rw [fZ]
  rw [show C5 x0.toNat aA x1.toNat x2.toNat (x::y::B)=if 256*x.toNat+y.toNat=B.length then (match so x0.toNat aA x1.toNat x2.toNat B with|none=>none|some px=>some ⟨x1.toNat,x2.toNat,x0.toNat,aA,px⟩) else none from rfl]
  by_cases hlen:256*x.toNat+y.toNat=B.length
  rotate_left
  ·rw [if_neg hlen]
   refine H.wg ?_;clear H;intro w H
   exact ⟨_,_,_,0,⟨none,0,0⟩,⟨none,0,0⟩,dY,H.sx,rfl⟩
  rw [if_pos hlen]
  refine wk ?_
  (first|refine dV 4 [13] [0,1,2,3,4,5,6,7,8,9,10,11,12,13,14,15] H ?_|refine dV 12 [] [0,1,2,3,4,5,6,7,8,9,10,11,12,13,14,15,16,17,18] H ?_|refine dV 14 [] [0,1,2,3,4,5,6,7,8,9,10] H ?_|refine dV 15 [] [0,1,2,3,4,5,6,7,8,9] H ?_);clear H;intro w H
  refine wk ?_
  refine (UG H.data rJ.1 nZ hpo hb aa w1 w2 h2).use ?_
  rintro v w ⟨V3,r3,ar,K,hres⟩
  (replace H:=H.aq K)
  cases Ib:so x0.toNat aA x1.toNat x2.toNat B with
  | none =>
   rw [Ib] at hres
   obtain rfl:=hres
   refine wk ?_
   (first|refine dV 4 [13] [0,1,2,3,4,5,6,7,8,9,10,11,12,13,14,15] H ?_|refine dV 12 [] [0,1,2,3,4,5,6,7,8,9,10,11,12,13,14,15,16,17,18] H ?_|refine dV 14 [] [0,1,2,3,4,5,6,7,8,9,10] H ?_|refine dV 15 [] [0,1,2,3,4,5,6,7,8,9] H ?_);clear H;intro w H
   refine H.wg ?_;clear H;intro w H
   exact ⟨V3,_,_,_,⟨none,0,0⟩,rp,dY.trans ar,H.sx,rfl⟩
  | some px =>
   rw [Ib] at hres
   obtain ⟨rfl,bB⟩:=hres
   refine wk ?_
   (first|refine dV 4 [13] [0,1,2,3,4,5,6,7,8,9,10,11,12,13,14,15] H ?_|refine dV 12 [] [0,1,2,3,4,5,6,7,8,9,10,11,12,13,14,15,16,17,18] H ?_|refine dV 14 [] [0,1,2,3,4,5,6,7,8,9,10] H ?_|refine dV 15 [] [0,1,2,3,4,5,6,7,8,9] H ?_);clear H;intro w H
   refine H.wg ?_;clear H;intro w H
   exact ⟨V3,0,0,0,r3,rp,dY.trans ar,H.sx,rfl,bB,nZ.up ar⟩
theorem T7 {l:List UInt8} {x:kz} (h:jB l=some x):(1≤x.wd∧x.wd≤64)∧(1≤x.ht∧x.ht≤64)∧x.f<64∧jg x.f x.aA∧x.px.length≤12288:=by
 obtain ⟨B,d,R,P⟩:=C6 h
 have w:=P.wd
 have t:=P.ht
 have hm:x.ht*(3*x.wd)≤64*192:=Nat.mul_le_mul t.2 (by have:=w.2;omega)
 exact ⟨w,t,P.fl.1,P.aA,by rw [P.yS.1];omega⟩
theorem WT (hV:Sub V W) {s:Sl} {l:List UInt8} (hs:ao V s l) (hl:l.length≤1099511627776):aj Tryz.prog 58 [s.v].toArray W (gZ W V (aU (eg l) l.length)):=by
 have H:=Rel.start hV
 have hlen:=hs.len
 refine eV Tryz.func58 39 [0,2,3,4,5,6,7,8,9,10,13,24,32] ?_
 refine wk ?_
 refine H.nA ?_;clear H;intro w b2 H
 refine wk ?_
 refine H.nA ?_;clear H;intro w b4 H
 by_cases bR:1000<l.length
 ·have e:aU (eg l) l.length=⟨zeroV,[],3, -1⟩:=by unfold aU;rw [if_pos bR]
  rw [e]
  refine wk ?_
  refine (A1 H.data 3 (-1)).use ?_
  rintro v w ⟨rfl,K⟩
  (replace H:=H.aq K)
  refine H.wg ?_;clear H;intro _ w H
  exact ⟨V,cw,⟨none,0,0⟩,Sub.refl _,H.sx,rfl,gG _,aw.nil _ _⟩
 refine wk ?_
 refine (UL H.data hs aa).use ?_
 rintro v w ⟨V2,a,b,f,r,ps,hV2,K,hres⟩
 (replace H:=H.aq K)
 cases hf:jB l with
 | none =>
  rw [hf] at hres
  obtain rfl:=hres
  have e:aU (eg l) l.length=⟨zeroV,[],21, -1⟩:=by unfold aU;rw [if_neg bR,eg,hf]
  rw [e]
  refine H.wg ?_;clear H;intro _ _ w H
  refine (A1 H.data 21 (-1)).use ?_
  rintro v w ⟨rfl,K⟩
  (replace H:=H.aq K)
  refine H.wg ?_;clear H;intro _ w H
  exact ⟨V2,cw,⟨none,0,0⟩,hV2,H.sx,rfl,gG _,aw.nil _ _⟩
 | some x =>
  rw [hf] at hres
  obtain ⟨rfl,jx,Rb⟩:=hres
  obtain ⟨⟨m1,m2⟩,⟨m3,m4⟩,m5,m6,m7⟩:=T7 hf
  refine wk ?_
  refine H.nA ?_;clear H;intro w b8 H
  refine H.wg ?_;clear H;intro w H
  refine (Uc H.data x.wd x.ht jx aa).use ?_
  rintro q w ⟨V3,h,ar,K,rfl,hv⟩
  (replace H:=H.aq K)
  have hB:VB 1048576 (kZ x.wd x.ht x.px):=LK (by constructor<;>omega) (by constructor<;>omega) aa
  refine wk ?_
  refine H.nA ?_;clear H;intro w wx H
  refine H.wg ?_;clear H;intro w H
  refine (sP H.data hv hB).use ?_
  rintro q w ⟨rfl,K⟩
  (replace H:=H.aq K)
  by_cases cK:(bC (kZ x.wd x.ht x.px)).1=0
  rotate_left
  ·have e:aU (eg l) l.length=⟨zeroV,[],21, -1⟩:=by unfold aU;rw [if_neg bR,eg,hf];simp only;rw [if_pos cK]
   rw [e]
   refine wk ?_
   refine (A1 H.data 21 (-1)).use ?_
   rintro v w ⟨rfl,K⟩
   (replace H:=H.aq K)
   refine H.wg ?_;clear H;intro _ w H
   exact ⟨V3,cw,⟨none,0,0⟩,hV2.trans ar,H.sx,rfl,gG _,aw.nil _ _⟩
  have e:aU (eg l) l.length=⟨kZ x.wd x.ht x.px,kY x.f x.aA,0,0⟩:=by unfold aU;rw [if_neg bR,eg,hf];simp only;rw [if_neg (fun q=>q cK)]
  rw [e,sR cK]
  refine wk ?_
  refine dV 7 [2] [0,1,3,2,4,5,6] H ?_;clear H;intro w H
  refine wk ?_
  refine (U3 H.data m5 (Rb.up ar) m6.le).use ?_
  rintro v w ⟨r2,rfl,K⟩
  (replace H:=Rel.call H K)
  simp only [List.cons_append,List.nil_append] at H
  refine H.wg ?_;clear H;intro _ w H
  obtain ⟨V6,bL,H,hr2⟩:=Rel.aJ H (fun _=>rfl) ag
  exact ⟨V6,_,r2,(hV2.trans ar).trans bL,H.sx,rfl,hv.up bL,hr2⟩
end
section
variable {V W:World}
theorem GB (hV:Sub V W) (c i:Int):aj Tryz.prog 165 [iv c,iv i].toArray W fun v w'=>v=gq c i∧Rel W V [] V w':=by
 have H:=Rel.start hV
 refine eV Tryz.func165 8 [0,1,4] ?_
 refine H.wg ?_;clear H;intro _ _ w H
 exact H.sx
theorem Gc (hV:Sub V W) {fl:Nat} (hf:fl<4):aj Tryz.prog 303 [iv (fl:Int)].toArray W fun v w'=>v=str (wV (bE fl))∧Rel W V [] V w':=by
 have H:=Rel.start hV
 obtain rfl|rfl|rfl|rfl:fl=0∨fl=1∨fl=2∨fl=3:=aa
 all_goals
  refine eV Tryz.func303 6 [0,2,5] ?_
  refine wk ?_
  exact H.sx
theorem OX (hV:Sub V W) {fl:Nat} (hf:fl<4):aj Tryz.prog 254 [iv (fl:Int)].toArray W fun v w'=>v=str (bu fl)∧Rel W V [] V w':=by
 have H:=Rel.start hV
 obtain rfl|rfl|rfl|rfl:fl=0∨fl=1∨fl=2∨fl=3:=aa
 all_goals
  refine eV Tryz.func254 6 [0,2,5] ?_
  refine wk ?_
  exact H.sx
theorem Wu (hV:Sub V W) {s:Sl} {l:List UInt8} (hs:ao V s l) (hl:l.length≤1000000):aj Tryz.prog 304 [s.v].toArray W fun v w'=>v=.int .u8 ((fQ l%256:Nat):Int)∧Rel W V [] V w':=by
 have H:=Rel.start hV
 have hlen:=hs.len
 refine eV Tryz.func304 17 [0,2,3,5,6,7,8,9] ?_
 refine wk ?_
 refine aK (S:=Nat) ad [0,2,6,7] (fun k=>[(3,.int .u8 ((fQ (l.take k)%256:Nat):Int)),(8,iv k)]) (fun k w'=>k≤l.length∧Rel W V [] V w') (fun k _=>l.length - k) 0 ?_
 conv=>whnf
 refine ⟨sB,⟨aa,H⟩,?_⟩
 clear H
 rintro k w ⟨hk,H⟩
 by_cases hlt:k<l.length
 ·obtain ⟨p0,c0⟩:=hs.aP (g:=bv) (fun _=>rfl) hlt
  have e:=Ws hlt
  obtain ⟨x,hx⟩:∃x,x=fQ (l.take k):=⟨_,rfl⟩
  obtain ⟨c,hc⟩:∃c,c=l[k]:=⟨_,rfl⟩
  rw [←hx,←hc] at e
  rw [←hc] at c0
  rw [←hx]
  refine wk ?_
  refine ⟨sB,k+1,⟨congrArg (fun z=>some (Value.int .u8 z)) ?_,congrArg (fun z=>some (iv z)) aa,trivial⟩,⟨aa,H⟩,aa⟩
  rw [e]
  show (((x%256:Nat):Int)+(c.toNat:Int))%256=_
  omega
 ·refine wk ?_
  rw [List.take_of_length_le aa]
  exact ⟨rfl,H⟩
theorem oZ (l:List UInt8):(⟨l.toArray⟩:ByteArray).size=l.length:=by simp [ByteArray.size]
theorem Hp (hV:Sub V W) (s p:List UInt8) (hs:s.length≤1000000000):aj Tryz.prog 351 [str s,str p].toArray W fun v w'=>v=.bool (decide (s.take p.length=p))∧Rel W V [] V w':=by
 have H:=Rel.start hV
 refine eV Tryz.func351 18 [0,1,4] ?_
 refine wk ?_
 rw [oZ,oZ]
 by_cases hl:p.length≤s.length
 ·refine wk ?_
  rw [oZ]
  refine wk ?_
  exact H.sx
 ·have:s.take p.length≠p:=fun q=>by
   have:=congrArg List.length q
   rw [List.length_take] at this
   omega
  rw [decide_eq_false this]
  refine wk ?_
  exact H.sx
theorem NQ (hV:Sub V W) (t:List UInt8) (hs:t.length≤1000000):aj Tryz.prog 301 [str (58::t),str [58]].toArray W fun v w'=>v=.tuple #[str t,.bool true]∧Rel W V [] V w':=by
 have H:=Rel.start hV
 refine eV Tryz.func301 11 [0,1,4,5] ?_
 refine wk ?_
 refine aj.use (K:=fun v w'=>v=.tuple #[str t,.bool true]∧Rel W V [] V w') ?_ ?_
 ·refine eV Tryz.func323 15 [0,1,4,5,9] ?_
  refine wk ?_
  refine (Hp H.data (58::t) [58] (by simp only [List.length_cons];omega)).use ?_
  rintro v w ⟨rfl,K⟩
  (replace H:=H.aq K)
  rw [decide_eq_true (show (58::t).take ([58]:List UInt8).length=[58] from rfl)]
  refine wk ?_
  refine ⟨⟨ag,by show (1:Int)≤((58::t).length:Nat);simp only [List.length_cons];omega⟩,?_⟩
  refine wk ?_
  refine ⟨?_,H.sx⟩
  rw [List.take_length]
  rfl
 rintro v w ⟨rfl,K⟩
 (replace H:=H.aq K)
 refine wk ?_
 exact H.sx
theorem NP (hV:Sub V W) (s:List UInt8) (hs:s.length≤1000000) (h:s.take 1≠[58]):aj Tryz.prog 301 [str s,str [58]].toArray W fun v w'=>v=.tuple #[str s,.bool false]∧Rel W V [] V w':=by
 have H:=Rel.start hV
 refine eV Tryz.func301 11 [0,1,4,5] ?_
 refine wk ?_
 refine aj.use (K:=fun v w'=>v=.tuple #[str s,.bool false]∧Rel W V [] V w') ?_ ?_
 ·refine eV Tryz.func323 15 [0,1,4,5,9] ?_
  refine wk ?_
  refine (Hp H.data s [58] aa).use ?_
  rintro v w ⟨rfl,K⟩
  (replace H:=H.aq K)
  rw [decide_eq_false (show ¬s.take ([58]:List UInt8).length=[58] from h)]
  refine wk ?_
  exact H.sx
 rintro v w ⟨rfl,K⟩
 (replace H:=H.aq K)
 refine wk ?_
 exact H.sx
theorem TG:∀x,x<16→∀y,y<16→aV .or .i64 ((x*16:Nat):Int) ((y:Nat):Int)=((16*x+y:Nat):Int):=by decide +kernel
structure Ms (W V:World) (o:Option (List UInt8)) (v:Value) (w':World):Prop where
 ex:∃(V':World) (r:Sl),Sub V V'∧Rel W V [] V' w'∧v=.tuple #[r.v,.bool o.isSome]∧∀raw,o=some raw→ao V' r raw
theorem UE (hV:Sub V W) {fl:Nat} (hf:fl<4) (s:List UInt8) (hs:s.length≤100000):aj Tryz.prog 255 [str s,iv (fl:Int)].toArray W (Ms W V (jE (bE fl) s)):=by
 have H:=Rel.start hV
 refine eV Tryz.func255 77 [0,1,4,5,6,7,8,9,10,23,27,48] ?_
 refine wk ?_
 by_cases hp:s.take 1=[58]
 rotate_left
 ·refine (NP H.data s aa hp).use ?_
  rintro v w ⟨rfl,K⟩
  (replace H:=H.aq K)
  have e:jE (bE fl) s=none:=by
   cases s with
   | nil=>rfl
   | cons c t=>rw [yX,if_neg fun q=>hp (by rw [q.1];rfl)]
  rw [e]
  refine wk ?_
  exact ⟨V,⟨none,0,0⟩,Sub.refl _,H.sx,rfl,fun _ h=>by cases h⟩
 obtain ⟨t,rfl⟩:∃t,s=58::t:=by
  cases s with
  | nil=>cases hp
  | cons c t =>
   have:c=58:=by simpa using hp
   exact ⟨t,by rw [this]⟩
 rw [List.length_cons] at hs
 refine (NQ H.data t aa).use ?_
 rintro v w ⟨rfl,K⟩
 (replace H:=H.aq K)
 by_cases hpar:t.length%2=0
 rotate_left
 ·have e:=Uz (lo:=bE fl) hpar
  refine wk ?_
  rw [oZ]
  rw [e]
  refine wk ?_
  exact ⟨V,⟨none,0,0⟩,Sub.refl _,H.sx,rfl,fun _ h=>by cases h⟩
 refine wk ?_
 rw [oZ]
 refine wk ?_
 replace H:=H.bw 5 1
 refine aK (S:=Nat×Sl×List UInt8) ad [0,1,6,23] (fun k=>[(7,k.2.1.v),(8,iv ((2*k.1:Nat):Int))]) (fun k w'=>2*k.1≤t.length∧k.2.2.length=k.1∧cf (bE fl) k.2.2=t.take (2*k.1)∧Rel W V [.row k.2.1 5 1 (k.2.2.flatMap ay)] V w') (fun k _=>t.length - k.1) (0,⟨none,0,0⟩,[]) ?_
 conv=>whnf
 refine ⟨sB,⟨aa,rfl,rfl,H⟩,?_⟩
 clear H
 rintro ⟨k,r,raw⟩ w ⟨hk,hrl,ux,H⟩
 dsimp only at hk hrl ux H ⊢
 by_cases hlt:2*k<t.length
 ·have h1:2*k+1<t.length:=aa
  have ed:∀j (hj:j<t.length),eA (bE fl) t[j]=none→jE (bE fl) (58::t)=none:=fun j hj h=>Uy hj h
  refine wk ?_
  rw [oZ]
  refine wk ?_
  have g0:t[(((2*k:Nat):Int)).toNat]?=some t[2*k]:=List.getElem?_eq_getElem hlt
  have g1:t[(((2*k:Nat):Int)+1).toNat]?=some t[2*k+1]:=by rw [show (((2*k:Nat):Int)+1).toNat=2*k+1 by omega];exact List.getElem?_eq_getElem h1
  refine dV 8 [] [0,2,3,4,6,8,9,10,11,1,5,7,12,13,14] H ?_;clear H;intro w H
  refine wk ?_
  refine (Gc H.data hf).use ?_
  rintro v w ⟨rfl,K⟩
  (replace H:=H.aq K)
  refine wk ?_
  refine (rP _ _ _).use ?_
  rintro v w' ⟨rfl,rfl⟩
  refine wk ?_
  refine (Gc H.data hf).use ?_
  rintro v w ⟨rfl,K⟩
  (replace H:=H.aq K)
  refine wk ?_
  refine (rP _ _ _).use ?_
  rintro v w' ⟨rfl,rfl⟩
  rw [show ∀c:UInt8,((c.toNat:Int)).toNat.toUInt8=c from fun c=>by simp,show ∀c:UInt8,((c.toNat:Int)).toNat.toUInt8=c from fun c=>by simp,Gb,Gb]
  refine wk ?_
  cases hx:eA (bE fl) t[2*k] with
  | none =>
   have n0:=HA.2 hx
   have e:=ed _ hlt hx
   generalize mE (bE fl) t[2*k]=z at n0
   rw [e]
   refine wk ?_
   exact ⟨V,⟨none,0,0⟩,Sub.refl _,H.sx,rfl,fun _ h=>by cases h⟩
  | some x =>
  cases hy:eA (bE fl) t[2*k+1] with
  | none =>
   have n0:=BG hx
   have x9:=HA.2 hy
   have e:=ed _ h1 hy
   rw [n0]
   generalize mE (bE fl) t[2*k+1]=z at x9
   rw [e]
   refine wk ?_
   exact ⟨V,⟨none,0,0⟩,Sub.refl _,H.sx,rfl,fun _ h=>by cases h⟩
  | some y =>
  obtain ⟨x1,x2⟩:=xC hx
  obtain ⟨y1,y2⟩:=xC hy
  rw [BG hx,BG hy]
  refine wk ?_
  rw [show (x:Int)*2 ^ min (Int.toNat 4) IntKind.i64.bits=((x*16:Nat):Int) by show (x:Int)*16=_;omega]
  refine H.wg ?_;clear H;intro _ w H
  rw [TG x x1 y y1,show Value.int .u8 (wr .u8 ((16*x+y:Nat):Int))=bv (UInt8.ofNat (16*x+y)) by
   simp only [bv]
   rw [bW aa]
   congr 1
   show ((16*x+y:Nat):Int)%256=_
   omega] at H
  refine Rel.dj (f:=ay) (l:=raw) (x:=UInt8.ofNat (16*x+y)) ad rfl rfl rfl rfl rfl ag (fun _=>rfl) (by simp [Value.oneCell',bv]) H (by show (raw.length+1)*1≤_;omega) aa ?_
  clear H
  intro r1 w H
  refine wk ?_
  refine ⟨sB,(k+1,r1,raw++[UInt8.ofNat (16*x+y)]),⟨rfl,congrArg (fun z=>some (iv z)) (by dsimp only;omega),trivial⟩,⟨by dsimp only;omega,by simp [hrl],?_,H⟩,by dsimp only;omega⟩
  dsimp only
  have e2:t.take (2*k+1+1)=t.take (2*k)++[t[2*k],t[2*k+1]]:=by
   rw [List.take_succ_eq_append_getElem h1,List.take_succ_eq_append_getElem hlt,List.append_assoc]
   rfl
  rw [←Qv (k:=k) x1 y1,ux,show 2*(k+1)=2*k+1+1 by omega,e2,←x2,←y2]
 ·have e6:2*k=t.length:=aa
  rw [e6,List.take_length] at ux
  obtain ⟨V2,hV2,H,hr⟩:=Rel.aJ H (fun _=>rfl) ag
  have uz:=hr.len
  refine wk ?_
  rw [oZ]
  refine wk ?_
  rw [←ux,Ux]
  by_cases h5:5≤raw.length
  rotate_left
  ·rw [if_neg fun q=>h5 q.1]
   refine wk ?_
   exact ⟨V2,r,hV2,H.sx,rfl,fun _ h=>by cases h⟩
  obtain ⟨p0,c0⟩:=hr.aP (g:=bv) (fun _=>rfl) (i:=0) aa
  have tZ:b8 raw 0=(raw[0]'aa).toNat:=by simp [b8,show 0<raw.length by omega]
  have Y2:=(raw[0]'aa).toNat_lt
  by_cases h6:raw.length=5+b8 raw 0
  rotate_left
  ·rw [if_neg fun q=>h6 q.2.1]
   rw [tZ] at h6
   refine wk ?_
   exact ⟨V2,r,hV2,H.sx,rfl,fun _ h=>by cases h⟩
  have PI:=h6
  rw [tZ] at PI
  refine wk ?_
  refine (Wu H.data hr aa).use ?_
  rintro v w ⟨rfl,K⟩
  (replace H:=H.aq K)
  by_cases h7:fQ raw%256=0
  ·rw [if_pos ⟨h5,h6,h7⟩]
   refine wk ?_
   rw [h7]
   exact ⟨V2,r,hV2,H.sx,rfl,fun _ h=>by cases h;exact hr⟩
  ·rw [if_neg fun q=>h7 q.2.2]
   refine wk ?_
   exact ⟨V2,r,hV2,H.sx,by rw [decide_eq_false aa];rfl,fun _ h=>by cases h⟩
end
section
open Go Go.RowKit Go.Shelf
def UT:Shelf.Ren:=⟨fun x=>if x=145 then 253 else if x=217 then 324 else if x=219 then 322 else if x=220 then 300 else if x=224 then 338 else if x=225 then 334 else if x=266 then 331 else if x=267 then 350 else if x=314 then 372 else x,
 fun x=>if x=3 then 3 else if x=4 then 4 else if x=5 then 5 else if x=9 then 9 else if x=46 then 132 else if x=51 then 321 else if x=59 then 311 else if x=146 then 391 else x,
 fun x=>if x=1 then 2 else x⟩
theorem R9:Lays.n145 Tryz.prog UT where
 mixed:=ab
 f145:=Tryz.func253.trans (congrArg some ab)
 f217:=Tryz.func324.trans (congrArg some ab)
 f219:=Tryz.func322.trans (congrArg some ab)
 f220:=Tryz.func300.trans (congrArg some ab)
 f224:=Tryz.func338.trans (congrArg some ab)
 f225:=Tryz.func334.trans (congrArg some ab)
 f266:=Tryz.func331.trans (congrArg some ab)
 f267:=Tryz.func350.trans (congrArg some ab)
 f314:=Tryz.func372.trans (congrArg some ab)
 t3:=Tryz.underlying3
 a3:=Tryz.isAgg3
 z3:=Tryz.sizeOf3
 v3:=Tryz.zeroValue3
 t4:=Tryz.underlying4
 a4:=Tryz.isAgg4
 z4:=Tryz.sizeOf4
 v4:=Tryz.zeroValue4
 t5:=Tryz.underlying5
 a5:=Tryz.isAgg5
 z5:=Tryz.sizeOf5
 v5:=Tryz.zeroValue5
 t9:=Tryz.underlying9
 a9:=Tryz.isAgg9
 z9:=Tryz.sizeOf9
 v9:=Tryz.zeroValue9
 t46:=Tryz.underlying132
 a46:=Tryz.isAgg132
 z46:=Tryz.sizeOf132
 v46:=Tryz.zeroValue132
 t51:=Tryz.underlying321
 a51:=Tryz.isAgg321
 z51:=Tryz.sizeOf321
 v51:=Tryz.zeroValue321
 t59:=Tryz.underlying311
 a59:=Tryz.isAgg311
 z59:=Tryz.sizeOf311
 v59:=Tryz.zeroValue311
 t146:=Tryz.underlying391
 a146:=Tryz.isAgg391
 z146:=Tryz.sizeOf391
 v146:=Tryz.zeroValue391
 g1:=ab
def nt (V:World):Prop:=∃m:Int,V.cell? ⟨2,0,none⟩=some (.int .i64 m)
theorem nt.up {V V':World} (h:nt V) (k:Sub V V'):nt V':=by
 obtain ⟨m,hm⟩:=h
 exact ⟨m,k.cell hm⟩
theorem Oe {V W:World} (hV:Sub V W) (hM:nt V) (s sep:List UInt8) (hs:s.length<4294967281):aj Tryz.prog 253 [str s,str sep].toArray W fun v w'=>v=.tuple #[str (Lib.cut s sep).1,str (Lib.cut s sep).2.1,.bool (Lib.cut s sep).2.2]∧Rel W V [] V w':=by
 obtain ⟨m,hm⟩:=hM.up hV
 refine aj.mT Tryz.func253 ab ab (Calls.iw (Any.strings_Cut R9 ⟨s.toArray⟩ ⟨sep.toArray⟩ m W (by show s.toArray.size<_;simpa using hs) hm) fun e w' ⟨he,n,hw⟩=>⟨_,he,rfl,?_⟩)
 subst hw
 exact Rel.ext (Rel.start hV) ⟨rfl,rfl,rfl,Nat.le_refl _,fun _ _=>rfl⟩
end
abbrev jG (h:Nat×Sl):List Value:=[iv (h.1:Int),h.2.v]
abbrev mh (V:World) (h:Nat×Sl) (s:aT):Prop:=h.1=s.1∧ao V h.2 s.2
theorem mh.up:∀(V V':World) (x:Nat×Sl) (y:aT),Sub V V'→mh V x y→mh V' x y:=fun _ _ _ _ k h=>⟨h.1,h.2.up k⟩
structure jR (V:World) (S:List aT) (hs:List (Nat×Sl)) (dl:Sl) (d:List UInt8):Prop where
 ex:(S=[]∧hs=[])∨∃(P:List aT) (a:Nat) (hP:List (Nat×Sl)),S=P++[(a,d)]∧hs=hP++[(a,dl)]∧Pw mh V hP P
theorem jR.up {V V':World} {S:List aT} {hs:List (Nat×Sl)} {dl:Sl} {d:List UInt8} (h:jR V S hs dl d) (k:Sub V V'):jR V' S hs dl d:=by
 rcases h.ex with h|⟨P,a,hP,h1,h2,h3⟩
 ·exact ⟨.inl h⟩
 ·exact ⟨.inr ⟨P,a,hP,h1,h2,h3.up mh.up k⟩⟩
theorem jR.len {V:World} {S:List aT} {hs:List (Nat×Sl)} {dl:Sl} {d:List UInt8} (h:jR V S hs dl d):hs.length=S.length:=by
 rcases h.ex with ⟨h1,h2⟩|⟨P,a,hP,h1,h2,h3⟩
 ·rw [h1,h2];rfl
 ·rw [h1,h2,List.length_append,List.length_append,h3.len];rfl
theorem jR.all {V:World} {S:List aT} {hs:List (Nat×Sl)} {dl:Sl} {d:List UInt8} (h:jR V S hs dl d) (hd:ao V dl d):Pw mh V hs S:=by
 rcases h.ex with ⟨h1,h2⟩|⟨P,a,hP,h1,h2,h3⟩
 ·rw [h1,h2];exact Pw.nil
 ·rw [h1,h2];exact h3.snoc ⟨rfl,hd⟩
theorem Rel.Wg {w0 V0 V w:World} {own:List ak} (H:Rel w0 V0 own V w) {i sz:Nat} {s:Sl} {e:TypeId} {xs:List Value} (hi:own[i]?=some (.row s e sz xs)) (j:Nat) (hj:j<s.len*sz) {b o:Nat} (hb:b=aN s.a) (ho:o=aI s.a+j) {v:Value} {k:World→Prop}
  (hk:∀w',Rel w0 V0 (own.set i (.row s e sz (xs.set j v))) V w'→k w'):∃c t',jd w b c t'∧cW c o [v] fun c'=>∀w',hC w b c' t' w'→k w':=by
 have hr:=H.rowAt hi
 rcases hr.at_ with ⟨_,h2,_⟩|⟨b0,cur,h1,h2,h3,h4,h5,h6⟩
 ·rw [h2,Nat.zero_mul] at hj;omega
 ·rw [h1] at hb ho
  simp only [aN,aI,Nat.zero_add] at hb ho
  subst hb ho
  have hbl:jd w b cur.toList e:=h2
  have hle:=Nat.mul_le_mul_right sz h3
  refine ⟨cur.toList,e,hbl,y8 (by rw [Array.length_toList,h5];omega) fun w' hu=>hk w' ?_⟩
  have hu':=hu
  obtain ⟨fz,cs,oa,rfl⟩:=hu.wd
  refine H.put hi rfl rfl rfl ae (fun k _ hk=>hu'.other fun e=>hk (by rw [e];simp [ak.at_,h1])) ⟨by rw [List.length_set,hr.len],.inr ⟨b,(cur.toList.set o v).toArray,h1,hu'.row hbl ae,h3,h4,by simp [h5],?_⟩⟩ fun k hk=>.inl hk
  rw [←h6]
  simp [List.take_set]
theorem VN (hP:List (Nat×Sl)) (x:Nat) (a b:Sl):((hP++[(x,a)]).flatMap jG).set (hP.length*2+1) b.v=(hP++[(x,b)]).flatMap jG:=by
 have hl:(hP.flatMap jG).length=hP.length*2:=jZ (n:=2) (fun _=>rfl) hP
 rw [List.flatMap_append,List.flatMap_append,List.set_append_right _ _ aa,hl,show hP.length*2+1 - hP.length*2=1 by omega]
 rfl
section
variable {V W:World}
theorem MC {w0 V0:World} {bx b4:Nat} {c4:List Value} {t4:TypeId} {sz sg dl c:Sl} {S:List aT} {Z:List Nat} {hs:List (Nat×Sl)} {d cs:List UInt8} {fl a:Nat}
  (H:Rel w0 V0 [.row sz 3 1 ((ints Z).flatMap ct),.row sg 316 2 (hs.flatMap jG),.row dl 5 1 (d.flatMap ay),.al bx [sg.v,sz.v,iv (fl:Int)] 211,.al b4 c4 t4] V W)
  (hS:jR V S hs dl d) (tT:S.length≤100000) (pA:Z.length≤100000) (hdl:d.length≤100000) (hc:ao V c cs) (hcl:cs.length≤1000) (ha:a≤65536) (hok:jF S) :
  aj Tryz.prog 256 [.pointer (some ⟨bx,0,none⟩),iv (a:Int),c.v].toArray W fun _ w'=>∃(V':World) (sz' km lC:Sl) (hs':List (Nat×Sl)) (d':List UInt8),Sub V V'∧jR V' (jT a cs S) hs' lC d' ∧
   Rel w0 V0 [.row sz' 3 1 ((ints (Z++[cs.length])).flatMap ct),.row km 316 2 (hs'.flatMap jG),.row lC 5 1 (d'.flatMap ay),.al bx [km.v,sz'.v,iv (fl:Int)] 211,.al b4 c4 t4] V' w':=by
 generalize hw0:W=wz at H
 subst hw0
 have rG:=hc.len
 have HR:=hS.len
 have j8:=H.dz (i:=1) rfl (fun _=>rfl) ag
 have cq:(ints Z).length=Z.length:=ae
 refine eV Tryz.func256 67 [0,1,2,6,7,25,44] ?_
 refine H.wg ?_;clear H;intro _ w H
 refine Rel.dj (f:=ct) (l:=ints Z) (x:=(c.len:Int)) ad rfl rfl rfl rfl rfl ag (fun _=>rfl) (by simp [Value.oneCell']) H (by show ((ints Z).length+1)*8≤_;omega) aa ?_
 clear H
 intro sz' w H
 rw [show ints Z++[(c.len:Int)]=ints (Z++[cs.length]) by simp [rG]] at H
 refine H.wg ?_;clear H;intro w H
 rcases hS.ex with ⟨rfl,rfl⟩|⟨P,x,hP,rfl,rfl,tS⟩
 ·have Zi:sg.len=0:=by simpa using j8
  refine wk ?_
  (first|refine dV 4 [] [0,1,2,3,4,5,6,7,8,9,10,11] H ?_|refine dV 6 [7,9] [0,1,2,3,4,5,6,7,8,9,10,11,12,13] H ?_);clear H;intro w H
  refine wk ?_
  refine (pa H.data hc aa).use ?_
  rintro v w ⟨r,rfl,K⟩
  (replace H:=Rel.call H K)
  simp only [List.cons_append,List.nil_append] at H
  refine H.wg ?_;clear H;intro _ w H
  refine Rel.tf (f:=jG) (l:=[]) (x:=(a,r)) ad rfl rfl rfl rfl rfl ag (fun _=>rfl) (by simp [Value.oneCell']) H (by show (0+1)*32≤_;omega) ae ?_
  clear H
  intro km w H
  refine H.wg ?_;clear H;intro w H
  have H0:Rel w0 V0 [.row dl 5 1 (d.flatMap ay),.row sz' 3 1 ((ints (Z++[cs.length])).flatMap ct),.row km 316 2 ([(a,r)].flatMap jG),.row r 5 1 (cs.flatMap ay),.al bx [km.v,sz'.v,iv (fl:Int)] 211,.al b4 c4 t4] V w:=H.pick
  obtain ⟨V2,hV2,H,hd⟩:=Rel.aJ H0 (fun _=>rfl) ag
  exact ⟨V2,sz',km,r,[(a,r)],cs,hV2,⟨.inr ⟨[],a,[],by rw [zY];rfl,rfl,Pw.nil⟩⟩,H⟩
 ·have hpn:=tS.len
  rw [List.length_append,List.length_singleton] at j8 tT
  have hpl:Plain sg.a:=((H.dO (i:=1) rfl (fun _=>rfl) ag).dW (g:=fun h:Nat×Sl=>iv (h.1:Int)) (g':=fun h:Nat×Sl=>h.2.v) (fun _=>rfl) (i:=hP.length) ae).1
  have eI:(((sg.len:Nat):Int) - 1).toNat=hP.length:=aa
  have gl:(hP++[(x,dl)])[hP.length]'(by simp)=(x,dl):=ae
  have BH:=H.dz (i:=2) rfl (fun _=>rfl) ag
  have hx:x<65536:=(hok (x,d) ae).1
  refine wk ?_
  (first|refine dV 4 [] [0,1,2,3,4,5,6,7,8,9,10,11] H ?_|refine dV 6 [7,9] [0,1,2,3,4,5,6,7,8,9,10,11,12,13] H ?_);clear H;intro w H
  refine wk ?_
  rw [eI]
  obtain ⟨_,u1,u2⟩:=(H.dO (i:=1) rfl (fun _=>rfl) ag).dW (g:=fun h:Nat×Sl=>iv (h.1:Int)) (g':=fun h:Nat×Sl=>h.2.v) (fun _=>rfl) (i:=hP.length) ae
  rw [gl] at u1 u2
  dsimp only at u1 u2
  refine ⟨_,u1,?_⟩
  refine wk ?_
  by_cases he:x+d.length=a
  ·refine wk ?_
   refine Rel.gn H (i:=2) rfl hc aa ?_
   clear H
   intro lC w H
   simp only [List.set_cons_zero,List.set_cons_succ] at H
   refine wk ?_
   refine Rel.Wg (i:=1) H rfl (hP.length*2+1) aa rfl rfl ?_
   clear H
   intro w H
   simp only [List.set_cons_zero,List.set_cons_succ] at H
   rw [show ((hP++[(x,dl)]).flatMap jG).set (hP.length*2+1) lC.v=(hP++[(x,lC)]).flatMap jG from VN hP x dl lC] at H
   refine wk ?_
   refine ⟨V,sz',sg,lC,hP++[(x,lC)],d++cs,Sub.refl _,⟨.inr ⟨P,x,hP,?_,rfl,tS⟩⟩,H⟩
   rw [td,if_pos he]
  ·refine wk ?_
   (first|refine dV 4 [] [0,1,2,3,4,5,6,7,8,9,10,11] H ?_|refine dV 6 [7,9] [0,1,2,3,4,5,6,7,8,9,10,11,12,13] H ?_);clear H;intro w H
   refine wk ?_
   refine (pa H.data hc aa).use ?_
   rintro v w ⟨r,rfl,K⟩
   (replace H:=Rel.call H K)
   simp only [List.cons_append,List.nil_append] at H
   refine H.wg ?_;clear H;intro _ w H
   refine Rel.tf (f:=jG) (l:=hP++[(x,dl)]) (x:=(a,r)) ad rfl rfl rfl rfl rfl ag (fun _=>rfl) (by simp [Value.oneCell']) H (by show ((hP++[(x,dl)]).length+1)*32≤_;rw [List.length_append,List.length_singleton];omega) (by rw [List.length_append,List.length_singleton];omega) ?_
   clear H
   intro km w H
   refine H.wg ?_;clear H;intro w H
   have H0:Rel w0 V0 [.row dl 5 1 (d.flatMap ay),.row sz' 3 1 ((ints (Z++[cs.length])).flatMap ct),.row km 316 2 ((hP++[(x,dl)]++[(a,r)]).flatMap jG),.row r 5 1 (cs.flatMap ay),.al bx [km.v,sz'.v,iv (fl:Int)] 211,.al b4 c4 t4] V w:=H.pick
   obtain ⟨V2,hV2,H,hd⟩:=Rel.aJ H0 (fun _=>rfl) ag
   refine ⟨V2,sz',km,r,hP++[(x,dl)]++[(a,r)],cs,hV2,⟨.inr ⟨P++[(x,d)],a,hP++[(x,dl)],?_,rfl,?_⟩⟩,H⟩
   ·rw [td,if_neg he]
   ·exact (tS.up mh.up hV2).snoc ⟨rfl,hd⟩
end
def lu (V:World) (s:Sl) (S:List aT):Prop:=∃hs,aw jG V s hs∧Pw mh V hs S
theorem lu.up {V V':World} {s:Sl} {S:List aT} (h:lu V s S) (k:Sub V V'):lu V' s S:=by
 obtain ⟨hs,h1,h2⟩:=h
 exact ⟨hs,h1.up k,h2.up mh.up k⟩
theorem lu.len {V:World} {s:Sl} {S:List aT} (h:lu V s S):s.len=S.length:=by
 obtain ⟨hs,h1,h2⟩:=h
 rw [h1.len,h2.len]
theorem jR.Oz {V:World} {S:List aT} {hs:List (Nat×Sl)} {dl:Sl} {d:List UInt8} (h:jR V S hs dl d) (hne:S≠[]) (hok:jF S):d.length≤65536:=by
 rcases h.ex with ⟨h1,_⟩|⟨P,a,hP,h1,_,_⟩
 ·exact absurd h1 hne
 ·have:=hok (a,d) (by rw [h1];simp)
  dsimp only at this
  omega
theorem MB (a:Nat) (c:List UInt8) (S:List aT):jT a c S≠[]∧(jT a c S).length≤S.length+1:=by
 rcases List.eq_nil_or_concat S with rfl|⟨P,x,rfl⟩
 ·rw [zY];exact ⟨ae,ae⟩
 ·rw [List.concat_eq_append,td]
  split
  ·exact ⟨ae,ae⟩
  ·exact ⟨ae,ae⟩
structure Mi (W V:World) (fl:Nat) (o:Option (List aT×List Nat)) (v:Value) (w':World):Prop where
 ex:∃(V':World) (sg sz:Sl) (c:Int) (k:Bool),Sub V V'∧Rel W V [] V' w'∧v=.tuple #[.agg #[sg.v,sz.v,iv c],.bool k]∧(match o with
  | none=>k=false
  | some (S,Z)=>k=true∧c=fl∧lu V' sg S∧aw ct V' sz (ints Z))
theorem Uq {raw:List UInt8} (h:gg raw):(raw.take (raw.length - 1)).drop 4=gB raw:=by
 have:=h.2.1
 unfold gB
 rw [List.drop_take,show raw.length - 1 - 4=b8 raw 0 by omega]
section
variable {V W:World}
theorem UJ (hV:Sub V W) (hM:nt V) {s:Sl} {l:List UInt8} (hs:ao V s l) (hl:l.length≤1000) {fl:Nat} (hf:fl<4):aj Tryz.prog 166 [s.v,iv (fl:Int)].toArray W (Mi W V fl (pJ fl l)):=by
 have H:=Rel.start hV
 have hlen:=hs.len
 refine eV Tryz.func166 92 [0,1,4,5,6,7,8,9,10,11,12,13,14,28,37,58,73] ?_
 refine wk ?_
 refine H.nA ?_;clear H;intro w b4 H
 refine wk ?_
 refine H.nA ?_;clear H;intro w b6 H
 refine H.wg ?_;clear H;intro w H
 refine ⟨fm _ ▸ (hs.up H.data).cells,?_⟩
 refine wk ?_
 replace H:=H.bw 5 1
 replace H:=H.bw 316 2
 replace H:=H.bw 3 1
 refine aK (S:=List UInt8×List aT×List Nat×List (Nat×Sl)×Sl×Sl×Sl×List UInt8) ad [0,1,4,6] (fun q=>[(7,str q.1)]) (fun q w'=>∃V3,Sub V V3∧jR V3 q.2.1 q.2.2.2.1 q.2.2.2.2.2.2.1 q.2.2.2.2.2.2.2∧jF q.2.1∧pJ fl l=oy fl q.2.1 q.2.2.1 q.1∧q.2.2.1.length+q.1.length≤l.length∧q.2.1.length≤q.2.2.1.length∧q.2.2.2.2.2.2.2.length≤65536 ∧
  Rel W V [.row q.2.2.2.2.1 3 1 ((ints q.2.2.1).flatMap ct),.row q.2.2.2.2.2.1 316 2 (q.2.2.2.1.flatMap jG),.row q.2.2.2.2.2.2.1 5 1 (q.2.2.2.2.2.2.2.flatMap ay),.al b6 [q.2.2.2.2.2.1.v,q.2.2.2.2.1.v,iv (fl:Int)] 211,.al b4 [.slice none 0 0,.slice none 0 0,iv 0] 211] V3 w') (fun q _=>q.1.length) (l,[],[],[],⟨none,0,0⟩,⟨none,0,0⟩,⟨none,0,0⟩,[]) ?_
 conv=>whnf
 refine ⟨sB,⟨V,Sub.refl _,⟨.inl ⟨rfl,rfl⟩⟩,by intro s hs;simp at hs,rfl,ae,ae,ae,H⟩,?_⟩
 clear H
 rintro ⟨rest,S,Z,gs,sz,sg,dl,d⟩ w ⟨V3,ar,hS,hok,aL,P0,PW,hdl,H⟩
 dsimp only at hS hok aL P0 PW hdl H ⊢
 refine wk ?_
 refine (OX H.data hf).use ?_
 rintro v w ⟨rfl,K⟩
 (replace H:=H.aq K)
 refine wk ?_
 refine (Oe H.data (hM.up ar) rest (bu fl) aa).use ?_
 rintro v w ⟨rfl,K⟩
 (replace H:=H.aq K)
 have kJ:=Lib.index_ge rest (bu fl)
 by_cases hi:Lib.index rest (bu fl) = -1
 ·have e:Lib.cut rest (bu fl)=(rest,[],false):=by unfold Lib.cut;rw [if_neg aa]
  rw [e]
  dsimp only
  rw [aL,(J6 (Uv hi))]
  refine H.wg ?_;clear H;intro w H
  exact ⟨V3,⟨none,0,0⟩,⟨none,0,0⟩,0,false,ar,H.sx,rfl,rfl⟩
 obtain ⟨i,hi⟩:∃i:Nat,Lib.index rest (bu fl)=i:=⟨(Lib.index rest (bu fl)).toNat,aa⟩
 obtain ⟨H9,cq⟩:=IB hi
 have e:Lib.cut rest (bu fl)=(rest.take i,rest.drop (i+(bu fl).length),true):=by unfold Lib.cut;rw [if_pos aa,hi];rfl
 rw [e]
 dsimp only
 have hcut:=Uu hi H9
 obtain ⟨nx,mK⟩:∃nx,nx=rest.drop (i+(bu fl).length):=⟨_,rfl⟩
 have hnl:nx.length+1≤rest.length:=by
  have h1:1≤(bu fl).length:=by unfold bu;split<;>simp
  rcases Lib.occAt_room H9 with h|h
  ·rw [mK,List.length_drop];omega
  ·rw [h] at h1;simp at h1
 rw [←mK] at hcut ⊢
 refine wk ?_
 refine (UE H.data hf (rest.take i) (by rw [List.length_take];omega)).use ?_
 rintro v w ⟨V4,rb,av,K,rfl,Rf⟩
 (replace H:=H.aq K)
 have jr:=ar.trans av
 cases aS:jE (bE fl) (rest.take i) with
 | none =>
  rw [aS] at hcut
  rw [aL,(J6 hcut)]
  refine H.wg ?_;clear H;intro w H
  exact ⟨V4,⟨none,0,0⟩,⟨none,0,0⟩,0,false,jr,H.sx,rfl,rfl⟩
 | some raw =>
 rw [aS] at hcut
 have ft:=Rf raw aS
 obtain ⟨_,Ce⟩:=yZ.1 aS
 have hrl:=ft.len
 have fu:=ft.cap
 have ⟨r5,r6,_⟩:=Ce
 obtain ⟨p0,c1⟩:=ft.aP (g:=bv) (fun _=>rfl) (i:=1) aa
 obtain ⟨_,c2⟩:=ft.aP (g:=bv) (fun _=>rfl) (i:=2) aa
 obtain ⟨_,c3⟩:=ft.aP (g:=bv) (fun _=>rfl) (i:=3) aa
 have gN:b8 raw 1=(raw[1]'aa).toNat:=by simp [b8,show 1<raw.length by omega]
 have gO:b8 raw 2=(raw[2]'aa).toNat:=by simp [b8,show 2<raw.length by omega]
 have hb3:b8 raw 3=(raw[3]'aa).toNat:=by simp [b8,show 3<raw.length by omega]
 have hat:fe raw=256*(raw[1]'aa).toNat+(raw[2]'aa).toNat:=by unfold fe;rw [gN,gO]
 have Cj:=ft.sub (n:=1) (fun _=>rfl) (a:=4) (b:=raw.length - 1) aa aa
 rw [Uq Ce] at Cj
 have hcl:=JW Ce
 have tZ:b8 raw 0≤255:=Nat.le_of_lt_succ (raw[0]?.getD 0).toNat_lt
 generalize raw[1]=x1 at c1 hat
 generalize raw[2]=x2 at c2 hat
 generalize raw[3]=x3 at c3 hb3
 have l1:=x1.toNat_lt
 have l2:=x2.toNat_lt
 have l3:=x3.toNat_lt
 have fZ:=qg l1 l2
 rw [←hat] at fZ
 have Zf:fe raw<65536:=aa
 refine wk ?_
 refine dV 10 [] [0,1,2,3,4,5,6,7,8,9,10,11,12,13,14,15,16,17,18,19,20] H ?_;clear H;intro w H
 refine wk ?_
 rw [k9]
 refine wk ?_
 rw [fZ]
 by_cases hk:b8 raw 3=1
 ·have HE:=UC (S:=S) (Z:=Z) hcut hk
  have Cn:x3.toNat=1:=by rw [←hb3];exact hk
  obtain ⟨V5,aF,H,hz⟩:=Rel.aJ H (fun _=>rfl) ag
  obtain ⟨V6,bL,H,hg⟩:=Rel.aJ H (fun _=>rfl) ag
  obtain ⟨V7,xu,H,hd⟩:=Rel.aJ H (fun _=>rfl) ag
  have xv:=(jr.trans aF).trans (bL.trans xu)
  have Rl:lu V7 sg S:=⟨gs,hg.up xu,(((hS.up av).up aF).up (bL.trans xu)).all hd⟩
  rw [aL,HE]
  by_cases c0:b8 raw 0=0
  rotate_left
  ·rw [if_neg (fun q=>c0 q.1)]
   refine H.wg ?_;clear H;intro w H
   exact ⟨V7,sg,sz,fl,false,xv,H.sx,rfl,rfl⟩
  by_cases c1:fe raw=0
  rotate_left
  ·rw [if_neg (fun q=>c1 q.2.1)]
   refine H.wg ?_;clear H;intro w H
   exact ⟨V7,sg,sz,fl,false,xv,H.sx,rfl,rfl⟩
  by_cases c2:nx=[]
  ·rw [if_pos ⟨c0,c1,c2⟩]
   refine H.wg ?_;clear H;intro w H
   exact ⟨V7,sg,sz,fl,true,xv,H.sx,by rw [decide_eq_true c2],rfl,rfl,Rl,(hz.up bL).up xu⟩
  ·rw [if_neg (fun q=>c2 q.2.2)]
   refine H.wg ?_;clear H;intro w H
   exact ⟨V7,sg,sz,fl,false,xv,H.sx,by rw [decide_eq_false c2],rfl⟩
 ·have lF:=UB (S:=S) (Z:=Z) hcut hk
  have Cn:x3.toNat≠1:=by rw [←hb3];exact hk
  by_cases d1:b8 raw 3=0
  rotate_left
  ·have Rw:x3.toNat≠0:=by rw [←hb3];exact d1
   rw [if_neg (fun q=>d1 q.1)] at lF
   rw [aL,lF]
   refine H.wg ?_;clear H;intro w H
   exact ⟨V4,⟨none,0,0⟩,⟨none,0,0⟩,0,false,jr,H.sx,rfl,rfl⟩
  have Rw:x3.toNat=0:=by rw [←hb3];exact d1
  by_cases d2:b8 raw 0=0
  ·rw [if_neg (fun q=>q.2.1 d2)] at lF
   rw [aL,lF]
   refine H.wg ?_;clear H;intro w H
   exact ⟨V4,⟨none,0,0⟩,⟨none,0,0⟩,0,false,jr,H.sx,rfl,rfl⟩
  by_cases d3:fe raw+b8 raw 0≤65536
  rotate_left
  ·rw [if_neg (fun q=>d3 q.2.2)] at lF
   rw [aL,lF]
   refine H.wg ?_;clear H;intro w H
   exact ⟨V4,⟨none,0,0⟩,⟨none,0,0⟩,0,false,jr,H.sx,rfl,rfl⟩
  rw [if_pos ⟨d1,d2,d3⟩] at lF
  have rG:gB raw≠[]:=by
   intro q
   rw [q] at hcl
   simp at hcl
   omega
  refine wk ?_
  rw [show (((rb.len:Nat):Int) - 1).toNat=raw.length - 1 by omega]
  refine (MC (a:=fe raw) H (hS.up av) aa aa aa Cj aa aa hok).use ?_
  clear H
  rintro v w ⟨V5,sz',km,lC,PC,d',aF,Ho,H⟩
  rw [hcl] at H
  have xT:=Ks (a:=fe raw) hok rG aa
  obtain ⟨n1,n2⟩:=MB (fe raw) (gB raw) S
  refine wk ?_
  exact ⟨sB,(nx,jT (fe raw) (gB raw) S,Z++[b8 raw 0],PC,sz',km,lC,d'),sB,⟨V5,jr.trans aF,Ho,xT,by dsimp only;rw [aL,lF],by dsimp only;rw [List.length_append,List.length_singleton];omega,by dsimp only;rw [List.length_append,List.length_singleton];omega,Ho.Oz n1 xT,H⟩,by dsimp only;omega⟩
end
end Go.Proofs.YtmoiobegbpkkbaaGreatDoor
