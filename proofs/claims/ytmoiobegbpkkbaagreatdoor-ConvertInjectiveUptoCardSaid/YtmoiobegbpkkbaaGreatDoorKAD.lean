import Derived.Test.YtmoiobegbpkkbaaGreatDoorKAC
import Derived.Test.YtmoiobegbpkkbaaGreatDoorProg
import Derived.Scope
import Derived.Laws.RangeString
import Derived.Test.YtmoiobegbpkkbaaGreatDoorChecked
import Derived.Laws.Runes
import Derived.Lib.Strings
import Derived.Lib.Slices
import Derived.Lib.Walk
import Derived.Lib.Bytealg
namespace Go.Proofs.YtmoiobegbpkkbaaGreatDoor
open Go Go.RowKit
set_option maxRecDepth 100000
set_option maxHeartbeats 8000000
theorem aB.cut {S:Type} {C:Cx} {c:Code} {env:Env} {ds:List Deferred} {w:World} {Q:dU} (i:Nat) (M:S→Env) (I:S→World→Prop)
  (h:aB C c env ds w (fun e au ds' w'=>match e with
   | .exit j=>(match Nat.beq j i with
    | true=>ds'=ds∧∃s,kq au (M s)∧I s w'
    | false=>Q (.exit j) au ds' w')
   | e=>Q e au ds' w'))
  (k:∀s w',I s w'→Q (.exit i) (M s) ds w'):aB C c env ds w Q:=by
 refine ⟨fun a hs hn hd=>wpIn_mono (h.out a hs hn hd) fun e a' w' ⟨h1,au,h2,h3⟩=>?_⟩
 cases e with
 | exit j =>
  simp only at h3
  cases hj:Nat.beq j i with
  | true =>
   simp only [hj] at h3
   obtain ⟨fI,s,h4,h5⟩:=h3
   have:=Nat.eq_of_beq_eq_true hj
   subst this
   exact ⟨h1,M s,fun t v ht=>h2 t v (l5 h4 t v ht),by rw [fI];exact k s w' h5⟩
  | false =>
   simp only [hj] at h3
   exact ⟨h1,au,h2,h3⟩
 | _=>exact ⟨h1,au,h2,h3⟩
inductive ak where
 | al (b:Nat) (l:List Value) (t:TypeId)
 | row (s:Sl) (e:TypeId) (sz:Nat) (xs:List Value)
 | obj (b:Nat) (o:Obj)
def ak.at_:ak→Option Nat
 | .al b _ _=>some b
 | .row s _ _ _=>s.a.map (·.block)
 | .obj b _=>some b
def ak.laid (w:World):ak→Prop
 | .al b l t=>bD w b l t
 | .row s e sz xs=>Row w s e sz xs
 | .obj b o=>w.heap[b]?=some o
theorem ak.lt {w:World} {r:ak} (h:r.laid w) {b:Nat} (hb:r.at_=some b):b<w.heap.size:=by
 cases r with
 | al b' l t=>cases hb;exact bD.lt h
 | row s e sz xs =>
  simp only [ak.at_,Option.map_eq_some_iff] at hb
  obtain ⟨p,hp,rfl⟩:=hb
  have:=Row.lt h (by rw [hp];simp)
  rw [hp] at this
  exact this
 | obj b' o=>cases hb;exact (Array.getElem?_eq_some_iff.1 h).1
theorem ak.fw {w w':World} {r:ak} (h:r.laid w) (hk:∀b,r.at_=some b→w'.heap[b]?=w.heap[b]?):r.laid w':=by
 cases r with
 | al b' l t=>exact (hk b' rfl).trans h
 | row s e sz xs=>exact Row.tw h fun b hb=>hk b (by simp [ak.at_,hb])
 | obj b' o=>exact (hk b' rfl).trans h
structure Sub (V W:World):Prop where
 bt:∀(b:Nat) (c:Array Value) (t:TypeId) (f:Nat×Nat),V.heap[b]?=some (Obj.cells c t f)→W.heap[b]?=some (Obj.cells c t f)
theorem Sub.refl (V:World):Sub V V:=⟨fun _ _ _ _ h=>h⟩
theorem Sub.trans {A B C:World} (h:Sub A B) (k:Sub B C):Sub A C:=⟨fun b c t f hb=>k.bt b c t f (h.bt b c t f hb)⟩
theorem Sub.ext {A B C:World} (h:Sub A B) (k:Ext B C):Sub A C:=⟨fun b c t f hb=>by
 have:=h.bt b c t f hb
 rw [k.block b (Array.getElem?_eq_some_iff.1 this).1];exact this⟩
theorem Sub.cell {V W:World} (h:Sub V W) {a:Addr} {v:Value} (hc:V.cell? a=some v):W.cell? a=some v:=by
 have:W.heap[a.block]?=V.heap[a.block]?:=by
  unfold World.cell? at hc
  split at hc
  ·rename_i c t f hb
   rw [hb];exact h.bt _ _ _ _ hb
  ·cases hc
 rw [World.cell?_of_block this];exact hc
theorem Cells.sG {V W:World} {a:Option Addr} {l:List Value} (h:Cells V a l) (k:Sub V W):Cells W a l:=⟨h.1,fun j v hj=>k.cell (h.2 j v hj)⟩
def yu (V:World) (b:Nat):Prop:=∀(c:Array Value) (t:TypeId) (f:Nat×Nat),V.heap[b]?≠some (Obj.cells c t f)
def ak.off (r s:ak):Prop:=∀b,r.at_=some b→s.at_≠some b
structure Rel (w0 V0:World) (own:List ak) (V w:World):Prop where
 base:Ext w0 w
 sub:Sub V0 V
 old:∀b,b<w0.heap.size→yu V0 b→yu V b
 laid:∀r∈own,r.laid w
 new:∀r∈own,∀b,r.at_=some b→w0.heap.size≤b
 hid:∀r∈own,∀b,r.at_=some b→yu V b
 apart:own.Pairwise ak.off
 data:Sub V w
theorem Rel.start {V w:World} (h:Sub V w):Rel w V [] V w:=⟨Ext.refl _,Sub.refl _,fun _ _ h=>h,ae,ae,ae,List.Pairwise.nil,h⟩
section
variable {w0 V0 V w:World} {own:List ak}
theorem Rel.q9 (H:Rel w0 V0 own V w) {a:Addr} {v:Value} (h:V.cell? a=some v):w.cell? a=some v:=H.data.cell h
theorem Rel.ext (H:Rel w0 V0 own V w) {w':World} (he:Ext w w'):Rel w0 V0 own V w' :=
 ⟨H.base.trans he,H.sub,H.old,fun r hr=>ak.fw (H.laid r hr) fun b hb=>he.block b (ak.lt (H.laid r hr) hb),H.new,H.hid,H.apart,H.data.ext he⟩
theorem Rel.call (H:Rel w0 V0 own V w) {own':List ak} {V' w':World} (K:Rel w V own' V' w'):Rel w0 V0 (own'++own) V' w':=by
 refine ⟨H.base.trans K.base,H.sub.trans K.sub,fun b hb hn=>K.old b (Nat.lt_of_lt_of_le hb H.base.size) (H.old b hb hn),fun r hr=>?_,fun r hr b hb=>?_,fun r hr b hb=>?_,?_,K.data⟩
 ·rcases List.mem_append.1 hr with hr|hr
  ·exact K.laid r hr
  ·exact ak.fw (H.laid r hr) fun b hb=>K.base.block b (ak.lt (H.laid r hr) hb)
 ·rcases List.mem_append.1 hr with hr|hr
  ·exact Nat.le_trans H.base.size (K.new r hr b hb)
  ·exact H.new r hr b hb
 ·rcases List.mem_append.1 hr with hr|hr
  ·exact K.hid r hr b hb
  ·exact K.old b (ak.lt (H.laid r hr) hb) (H.hid r hr b hb)
 ·refine List.pairwise_append.2 ⟨K.apart,H.apart,fun r hr s hs b hb he=>?_⟩
  have h1:=K.new r hr b hb
  have h2:=ak.lt (H.laid s hs) he
  omega
theorem Rel.aq (H:Rel w0 V0 own V w) {V' w':World} (K:Rel w V [] V' w'):Rel w0 V0 own V' w':=H.call K
theorem Rel.sl (H:Rel w0 V0 own V w) {own':List ak} (h:own'.Sublist own):Rel w0 V0 own' V w :=
 ⟨H.base,H.sub,H.old,fun r hr=>H.laid r (h.subset hr),fun r hr=>H.new r (h.subset hr),fun r hr=>H.hid r (h.subset hr),H.apart.sublist h,H.data⟩
theorem Rel.pd {r:ak} (H:Rel w0 V0 (r::own) V w):Rel w0 V0 own V w:=H.sl (List.sublist_cons_self _ _)
theorem Rel.swap {r s:ak} (H:Rel w0 V0 (r::s::own) V w):Rel w0 V0 (s::r::own) V w:=by
 have hm:∀x,x∈s::r::own→x∈r::s::own:=fun x hx=>by simp only [List.mem_cons] at hx ⊢;rcases hx with h|h|h<;>simp [h]
 refine ⟨H.base,H.sub,H.old,fun x hx=>H.laid x (hm x hx),fun x hx=>H.new x (hm x hx),fun x hx=>H.hid x (hm x hx),?_,H.data⟩
 have h:=H.apart
 simp only [List.pairwise_cons,List.mem_cons,forall_eq_or_imp] at h ⊢
 obtain ⟨⟨h1,h2⟩,h3,h4⟩:=h
 exact ⟨⟨fun b hb hc=>h1 b hc hb,h3⟩,h2,h4⟩
theorem Rel.more (H:Rel w0 V0 own V w) {r:ak} {w':World} (he:Ext w w') (hr:r.laid w') (hn:∀b,r.at_=some b→w.heap.size≤b):Rel w0 V0 (r::own) V w':=by
 have H':=H.ext he
 refine ⟨H'.base,H'.sub,H'.old,?_,?_,?_,?_,H'.data⟩
 ·intro x hx
  rcases List.mem_cons.1 hx with rfl|hx
  ·exact hr
  ·exact H'.laid x hx
 ·intro x hx b hb
  rcases List.mem_cons.1 hx with rfl|hx
  ·exact Nat.le_trans H.base.size (hn b hb)
  ·exact H'.new x hx b hb
 ·intro x hx b hb
  rcases List.mem_cons.1 hx with rfl|hx
  ·intro c t f hc
   have h1:=H.data.bt b c t f hc
   have h2:=(Array.getElem?_eq_some_iff.1 h1).1
   have h3:=hn b hb
   omega
  ·exact H'.hid x hx b hb
 ·refine List.pairwise_cons.2 ⟨fun s hs b hb hc=>?_,H'.apart⟩
  have h1:=hn b hb
  have h2:=ak.lt (H.laid s hs) hc
  omega
theorem Rel.yt (H:Rel w0 V0 own V w) {b:Nat} {l:List Value} {t:TypeId} {w':World} (h:kx w b l t w'):Rel w0 V0 (.al b l t::own) V w' :=
 H.more h.ext h.al fun c hc=>by cases hc;rw [h.num];exact Nat.le_refl _
theorem Rel.nw (H:Rel w0 V0 own V w) {l:List Value} {t:TypeId} {G:World→Nat→Prop} (k:∀w' b,Rel w0 V0 (.al b l t::own) V w'→G w' b):∀w' b,kx w b l t w'→G w' b :=
 fun w' b h=>k w' b (H.yt h)
theorem Rel.qf (H:Rel w0 V0 own V w) {l:List Value} {t:TypeId} {G:World→Nat→Prop} (k:∀w' b,Rel w0 V0 (.al b l t::own) V w'→G w' b):∀w' b,kx w b l t w'→Ext w w'∧G w' b :=
 fun w' b h=>⟨h.ext,k w' b (H.yt h)⟩
theorem Rel.nA (H:Rel w0 V0 own V w) {l:List Value} {t:TypeId} {G:World→Nat→Prop} {A:Prop} (k:∀w' b,Rel w0 V0 (.al b l t::own) V w'→G w' b) (e:(∀w' b,Rel w0 V0 (.al b l t::own) V w'→G w' b)→A:=by first|exact Rel.qf H|exact Rel.nw H):A:=e k
theorem Rel.bw (H:Rel w0 V0 own V w) (e:TypeId) (sz:Nat):Rel w0 V0 (.row ⟨none,0,0⟩ e sz []::own) V w :=
 H.more (Ext.refl _) (Row.nil _ _ _) fun b hb=>by simp [ak.at_] at hb
theorem Rel.gj {b n:Nat} {l:List Value} {e:TypeId} {sz:Nat} (H:Rel w0 V0 (.al b l e::own) V w) (hl:l.length=n*sz) (hn:n≤maxLen):Rel w0 V0 (.row ⟨some ⟨b,0,none⟩,n,n⟩ e sz l::own) V w:=by
 have hb:bD w b l e:=H.laid (.al b l e) ae
 have hr:Row w ⟨some ⟨b,0,none⟩,n,n⟩ e sz l:=Row.yp hb hl hn
 refine ⟨H.base,H.sub,H.old,?_,?_,?_,?_,H.data⟩
 ·intro x hx
  rcases List.mem_cons.1 hx with rfl|hx
  ·exact hr
  ·exact H.laid x (by simp [hx])
 ·intro x hx c hc
  rcases List.mem_cons.1 hx with rfl|hx
  ·exact H.new (.al b l e) ae c hc
  ·exact H.new x (by simp [hx]) c hc
 ·intro x hx c hc
  rcases List.mem_cons.1 hx with rfl|hx
  ·exact H.hid (.al b l e) ae c hc
  ·exact H.hid x (by simp [hx]) c hc
 ·have:=List.pairwise_cons.1 H.apart
  exact List.pairwise_cons.2 ⟨fun s hs c hc=>this.1 s hs c hc,this.2⟩
theorem Rel.put (H:Rel w0 V0 own V w) {i:Nat} {r r':ak} (hi:own[i]?=some r) {w':World} (hos:w'.os=w.os) (Rn:w'.tape=w.tape) (hout:w'.output=w.output) (hsz:w.heap.size≤w'.heap.size)
  (hbl:∀c,c<w.heap.size→r.at_≠some c→w'.heap[c]?=w.heap[c]?) (hr:r'.laid w') (hn:∀b,r'.at_=some b→r.at_=some b∨w.heap.size≤b):Rel w0 V0 (own.set i r') V w':=by
 have hlt:i<own.length:=(List.getElem?_eq_some_iff.1 hi).1
 have uy:own[i]=r:=(List.getElem?_eq_some_iff.1 hi).2
 have hmem:r∈own:=List.mem_of_getElem? hi
 have hoth:∀(j:Nat) s,own[j]?=some s→j≠i→∀b,s.at_=some b→r.at_≠some b:=by
  intro j s hj hne b hb hc
  have pP:=(List.getElem?_eq_some_iff.1 hj).1
  have rK:=(List.getElem?_eq_some_iff.1 hj).2
  rcases Nat.lt_or_ge j i with h|h
  ·have:=List.pairwise_iff_getElem.1 H.apart j i pP hlt h
   rw [rK,uy] at this
   exact this b hb hc
  ·have:=List.pairwise_iff_getElem.1 H.apart i j hlt pP aa
   rw [rK,uy] at this
   exact this b hc hb
 have mM:∀x∈own.set i r',x=r'∨∃j,j≠i∧own[j]?=some x:=by
  intro x hx
  obtain ⟨j,hj⟩:=List.mem_iff_getElem?.1 hx
  by_cases hji:i=j
  ·subst hji
   rw [List.getElem?_set_self hlt] at hj
   cases hj;exact .inl rfl
  ·rw [List.getElem?_set_ne hji] at hj
   exact .inr ⟨j,fun e=>hji e.symm,hj⟩
 have lF:∀(b:Nat) (c:Array Value) (t:TypeId) (f:Nat×Nat),V.heap[b]?=some (Obj.cells c t f)→w'.heap[b]?=some (Obj.cells c t f):=by
  intro b c t f hb
  have h1:=H.data.bt b c t f hb
  rw [hbl b (Array.getElem?_eq_some_iff.1 h1).1 fun hc=>H.hid r hmem b hc c t f hb]
  exact h1
 refine ⟨⟨hos.trans H.base.os,Rn.trans H.base.tape,hout.trans H.base.output,Nat.le_trans H.base.size hsz,fun k hk=>?_⟩,H.sub,H.old,fun x hx=>?_,fun x hx b hb=>?_,fun x hx b hb=>?_,?_,⟨lF⟩⟩
 ·rw [hbl k (Nat.lt_of_lt_of_le hk H.base.size) fun hc=>by have:=H.new r hmem k hc;omega]
  exact H.base.block k hk
 ·rcases mM x hx with rfl|⟨j,hj,hx⟩
  ·exact hr
  ·have hl:=H.laid x (List.mem_of_getElem? hx)
   exact ak.fw hl fun b hb=>hbl b (ak.lt hl hb) (hoth j x hx hj b hb)
 ·rcases mM x hx with rfl|⟨j,hj,hx⟩
  ·rcases hn b hb with h|h
   ·exact H.new r hmem b h
   ·exact Nat.le_trans H.base.size h
  ·exact H.new x (List.mem_of_getElem? hx) b hb
 ·rcases mM x hx with rfl|⟨j,hj,hx⟩
  ·rcases hn b hb with h|h
   ·exact H.hid r hmem b h
   ·intro c t f hc
    have h1:=H.data.bt b c t f hc
    have h2:=(Array.getElem?_eq_some_iff.1 h1).1
    omega
  ·exact H.hid x (List.mem_of_getElem? hx) b hb
 ·rw [List.pairwise_iff_getElem]
  intro j k hj hk iG b hb hc
  simp only [List.length_set] at hj hk
  rw [List.getElem_set] at hb hc
  have key:∀(m:Nat) (hm:m<own.length),m≠i→own[m].at_=some b→r'.at_=some b→False:=by
   intro m hm hne h1 h2
   rcases hn b h2 with h|h
   ·exact hoth m own[m] (by simp [hm]) hne b h1 h
   ·have:=ak.lt (H.laid own[m] (List.getElem_mem hm)) h1
    omega
  split at hb
  ·split at hc
   ·omega
   ·exact key k hk aa hc hb
  ·split at hc
   ·exact key j hj aa hb hc
   ·exact List.pairwise_iff_getElem.1 H.apart j k hj hk iG b hb hc
theorem Rel.lz (H:Rel w0 V0 own V w) {i b:Nat} {c:List Value} {t:TypeId} (hi:own[i]?=some (.al b c t)):bD w b c t:=H.laid (.al b c t) (List.mem_of_getElem? hi)
theorem Rel.rowAt (H:Rel w0 V0 own V w) {i:Nat} {s:Sl} {e sz:Nat} {xs:List Value} (hi:own[i]?=some (.row s e sz xs)):Row w s e sz xs:=H.laid (.row s e sz xs) (List.mem_of_getElem? hi)
theorem Rel.Tx (H:Rel w0 V0 own V w) {i b:Nat} {o:Obj} (hi:own[i]?=some (.obj b o)):w.heap[b]?=some o:=H.laid (.obj b o) (List.mem_of_getElem? hi)
theorem Rel.Al (H:Rel w0 V0 own V w) {i b o:Nat} {c:List Value} {t:TypeId} {u:Value} (hi:own[i]?=some (.al b c t)) (h:c[o]?=some u):w.cell? ⟨b,o,none⟩=some u:=(H.lz hi).bt h
theorem Rel.Er (H:Rel w0 V0 own V w) {i b:Nat} {c c':List Value} {t:TypeId} (hi:own[i]?=some (.al b c t)) {w':World} (hu:ml w b c' t w'):Rel w0 V0 (own.set i (.al b c' t)) V w':=by
 have hb:=H.lz hi
 have hu':=hu
 obtain ⟨rfl⟩:=hu
 exact H.put hi rfl rfl rfl ae (fun k _ hk=>hu'.other fun e=>hk (by rw [e];rfl)) (hu'.al hb.lt) fun k hk=>.inl hk
theorem Rel.storeAt (H:Rel w0 V0 own V w) {i b o:Nat} {c l:List Value} {t:TypeId} (hi:own[i]?=some (.al b c t)) {k:World→Prop} (hk:cW c o l fun c'=>∀w',Rel w0 V0 (own.set i (.al b c' t)) V w'→k w') :
  ∃c t',jd w b c t'∧cW c o l fun c'=>∀w',hC w b c' t' w'→k w':=by
 refine ⟨c,t,(H.lz hi).f,?_⟩
 have mono:∀(c:List Value) (o:Nat) (l:List Value) (k k':List Value→Prop),(∀x,k x→k' x)→cW c o l k→cW c o l k':=by
  intro c
  induction c with
  | nil=>intro o l k k' h hr;cases o<;>cases l<;>first|exact h _ hr|exact hr.elim
  | cons u c ih =>
   intro o l k k' h hr
   cases o with
   | zero =>
    cases l with
    | nil=>exact h _ hr
    | cons v l=>exact ih 0 l _ _ (fun x hx=>h _ hx) hr
   | succ o=>cases l<;>exact ih o _ _ _ (fun x hx=>h _ hx) hr
 exact mono c o l _ _ (fun c' hc' w' hu=>hc' w' (H.Er hi (hu.vP (H.lz hi)))) hk
theorem Rel.tg {P:Program} {T:List TD} (hT:aQ P T) {t ty e:TypeId} {d de:TD} (hd:T[t]?=some d) (hu:d.under=.slice e) (hde:T[e]?=some de) {z:Value} (hz:de.zero=some z) (hzs:z.cells.size=de.size) (hsz:0<de.size)
  {s x:Sl} {xs ys:List Value} (H:Rel w0 V0 own V w) {i:Nat} (hi:own[i]?=some (.row s e de.size xs)) (hx:Cells w x.a ys) (hxl:ys.length=x.len*de.size) (h1:∀u∈ys,u.oneCell'=true) (hb:(s.len+x.len)*de.bytes≤140737488355328) (hm:s.len+x.len≤4611686018427387904)
  {k:Value→World→Prop} (hk:∀s' w',Rel w0 V0 (own.set i (.row s' e de.size (xs++ys))) V w'→s'.len=s.len+x.len→k s'.v w'):aH P (Builtin.append_ #[t,t] ty #[s.v,x.v]) w k:=by
 refine MQ hT hd hu hde hz hzs hsz (H.rowAt hi) hx hxl h1 hb hm fun s' w' hr hl hg=>hk s' w' ?_ hl
 have hra:=(H.rowAt hi).at_
 refine H.put hi hg.os hg.tape hg.output hg.size (fun c hc hne=>hg.block c hc ?_) hr fun b hb=>?_
 ·cases hs:s.a with
  | none=>exact .inl rfl
  | some p=>refine .inr fun e=>hne ?_;rw [e];simp [ak.at_,hs,aN]
 ·simp only [ak.at_,Option.map_eq_some_iff] at hb ⊢
  obtain ⟨p,hp,rfl⟩:=hb
  rcases hg.own with h|⟨h,h'⟩|h
  ·rw [hp] at h;cases h
  ·cases hs:s.a with
   | none=>exact absurd hs h
   | some q=>rw [hp,hs] at h';exact .inl ⟨q,rfl,h'.symm⟩
  ·rw [hp] at h;exact .inr h
theorem Rel.freeze (H:Rel w0 V0 own V w) {own':List ak} (h:own'.Sublist own):∃V',Sub V V'∧Rel w0 V0 own' V' w ∧
  ∀(b:Nat) (c:Array Value) (t:TypeId) (f:Nat×Nat),w0.heap.size≤b→w.heap[b]?=some (Obj.cells c t f)→(∀r∈own',r.at_≠some b)→V'.heap[b]?=some (Obj.cells c t f):=by
 have Hs:=H.sl h
 let q:Nat→Bool:=fun i=>(decide (i<w0.heap.size)&&(match V.heap[i]? with|some (.cells _ _ _)=>false|_=>true))||own'.any fun r=>r.at_ == some i
 have hq:∀i,q i=true↔(i<w0.heap.size∧yu V i)∨∃r∈own',r.at_=some i:=by
  intro i
  simp only [q,Bool.or_eq_true,Bool.and_eq_true,decide_eq_true_eq,List.any_eq_true,beq_iff_eq]
  refine or_congr (and_congr Iff.rfl ?_) Iff.rfl
  constructor
  ·intro hm c t f hc;rw [hc] at hm;cases hm
  ·intro hn
   cases hv:V.heap[i]? with
   | none=>rfl
   | some o =>
    cases o with
    | cells c t f=>exact absurd hv (hn c t f)
    | _=>rfl
 refine ⟨{ w with heap:=w.heap.mapIdx fun i o=>if q i=true then .deferred none else o },?_,?_,?_⟩
 ·refine ⟨fun b c t f hb=>?_⟩
  have h1:=H.data.bt b c t f hb
  simp only [Array.getElem?_mapIdx,h1,Option.map_some,Option.some.injEq]
  rw [if_neg]
  intro hc
  rcases (hq b).1 hc with ⟨_,hn⟩|⟨r,hr,ft⟩
  ·exact hn c t f hb
  ·exact Hs.hid r hr b ft c t f hb
 ·have BD:∀(b:Nat) (c:Array Value) (t:TypeId) (f:Nat×Nat),(w.heap.mapIdx fun i o=>if q i=true then Obj.deferred none else o)[b]?=some (.cells c t f)→q b=false∧w.heap[b]?=some (.cells c t f):=by
   intro b c t f hb
   rw [Array.getElem?_mapIdx] at hb
   obtain ⟨o,ho,hb⟩:=Option.map_eq_some_iff.1 hb
   split at hb
   ·cases hb
   ·rename_i hn
    exact ⟨by simpa using hn,by rw [ho,hb]⟩
  refine ⟨H.base,?_,fun b hb hn c t f hc=>?_,Hs.laid,Hs.new,fun r hr b hb c t f hc=>?_,Hs.apart,⟨fun b c t f hb=>(BD b c t f hb).2⟩⟩
  ·refine ⟨fun b c t f hb=>?_⟩
   have hb:=H.sub.bt b c t f hb
   have h1:=H.data.bt b c t f hb
   simp only [Array.getElem?_mapIdx,h1,Option.map_some,Option.some.injEq]
   rw [if_neg]
   intro hc
   rcases (hq b).1 hc with ⟨_,hn⟩|⟨r,hr,ft⟩
   ·exact hn c t f hb
   ·exact Hs.hid r hr b ft c t f hb
  ·have:=(BD b c t f hc).1
   have h2:=(hq b).2 (.inl ⟨hb,H.old b hb hn⟩)
   rw [this] at h2;cases h2
  ·have:=(BD b c t f hc).1
   have h2:=(hq b).2 (.inr ⟨r,hr,hb⟩)
   rw [this] at h2;cases h2
 ·intro b c t f tZ hb hn
  simp only [Array.getElem?_mapIdx,hb,Option.map_some,Option.some.injEq]
  rw [if_neg]
  intro hc
  rcases (hq b).1 hc with ⟨h1,_⟩|⟨r,hr,ft⟩
  ·omega
  ·exact hn r hr ft
theorem Rel.Pr {s:Sl} {e sz:Nat} {xs:List Value} (H:Rel w0 V0 (.row s e sz xs::own) V w):∃V',Sub V V'∧Rel w0 V0 own V' w∧Cells V' s.a xs∧s.len≤s.cap∧xs.length=s.len*sz:=by
 obtain ⟨V',h1,h2,h3⟩:=H.freeze (List.sublist_cons_self _ _)
 have hr:Row w s e sz xs:=H.laid (.row s e sz xs) ae
 refine ⟨V',h1,h2,?_,hr.cap,hr.len⟩
 rcases hr.at_ with ⟨g1,g2,g3⟩|⟨b,cur,g1,g2,g3,g4,g5,g6⟩
 ·have:xs=[]:=List.eq_nil_of_length_eq_zero (by rw [hr.len,g2];simp)
  subst this
  exact ⟨fun h=>absurd rfl h,fun j v hj=>by simp at hj⟩
 ·obtain ⟨fz,g2,_⟩:=g2
  have hv:=h3 b cur e fz (H.new (.row s e sz xs) ae b (by simp [ak.at_,g1])) g2 (fun r hr ft=>(List.pairwise_cons.1 H.apart).1 r hr b (by simp [ak.at_,g1]) ft)
  refine ⟨fun _=>by rw [g1];rfl,fun j v hj=>?_⟩
  rw [g1]
  simp only [aN,aI,Nat.zero_add]
  rw [←g6,List.getElem?_take] at hj
  split at hj
  ·simp [World.cell?,hv];simpa using hj
  ·cases hj
theorem Rel.bJ {b:Nat} {l:List Value} {t:TypeId} (H:Rel w0 V0 (.al b l t::own) V w):∃V',Sub V V'∧Rel w0 V0 own V' w∧bD V' b l t:=by
 obtain ⟨V',h1,h2,h3⟩:=H.freeze (List.sublist_cons_self _ _)
 exact ⟨V',h1,h2,h3 b l.toArray t (0,0) (H.new (.al b l t) ae b rfl) (H.laid (.al b l t) ae) (fun r hr ft=>(List.pairwise_cons.1 H.apart).1 r hr b rfl ft)⟩
theorem Rel.qW {b:Nat} {c:List Value} {t:TypeId} (H:Rel w0 V0 (.al b c t::own) V w):bD w b c t:=Rel.lz H (i:=0) rfl
theorem Rel.ET {P:Program} {T:List TD} (hT:aQ P T) {t ty e:TypeId} {d de:TD} (hd:T[t]?=some d) (hu:d.under=.slice e) (hde:T[e]?=some de) {z:Value} (hz:de.zero=some z) (hzs:z.cells.size=de.size) (hsz:0<de.size)
  {s x:Sl} {xs ys:List Value} (H:Rel w0 V0 (.row s e de.size xs::own) V w) (hx:Cells w x.a ys) (hxl:ys.length=x.len*de.size) (h1:∀u∈ys,u.oneCell'=true) (hb:(s.len+x.len)*de.bytes≤140737488355328) (hm:s.len+x.len≤4611686018427387904)
  {k:Value→World→Prop} (hk:∀s' w',Rel w0 V0 (.row s' e de.size (xs++ys)::own) V w'→s'.len=s.len+x.len→k s'.v w'):aH P (Builtin.append_ #[t,t] ty #[s.v,x.v]) w k :=
 Rel.tg hT hd hu hde hz hzs hsz H (i:=0) rfl hx hxl h1 hb hm hk
theorem Rel.Ad {r0 r1:ak} {P:Program} {T:List TD} (hT:aQ P T) {t ty e:TypeId} {d de:TD} (hd:T[t]?=some d) (hu:d.under=.slice e) (hde:T[e]?=some de) {z:Value} (hz:de.zero=some z) (hzs:z.cells.size=de.size) (hsz:0<de.size)
  {s x:Sl} {xs ys:List Value} (H:Rel w0 V0 (r0::r1::.row s e de.size xs::own) V w) (hx:Cells w x.a ys) (hxl:ys.length=x.len*de.size) (h1:∀u∈ys,u.oneCell'=true) (hb:(s.len+x.len)*de.bytes≤140737488355328) (hm:s.len+x.len≤4611686018427387904)
  {k:Value→World→Prop} (hk:∀s' w',Rel w0 V0 (r0::r1::.row s' e de.size (xs++ys)::own) V w'→s'.len=s.len+x.len→k s'.v w'):aH P (Builtin.append_ #[t,t] ty #[s.v,x.v]) w k :=
 Rel.tg hT hd hu hde hz hzs hsz H (i:=2) rfl hx hxl h1 hb hm hk
inductive At:List ak→ak→Prop where
 | h {r:ak} {l:List ak}:At (r::l) r
 | t {x r:ak} {l:List ak}:At l r→At (x::l) r
theorem At.idx {l:List ak} {r:ak} (h:At l r):∃i:Nat,l[i]?=some r:=by
 induction h with
 | h=>exact ⟨0,rfl⟩
 | t _ ih=>obtain ⟨i,hi⟩:=ih;exact ⟨i+1,hi⟩
inductive qL:List ak→ak→(ak→List ak)→Prop where
 | h {r:ak} {l:List ak}:qL (r::l) r (fun x=>x::l)
 | t {y r:ak} {l:List ak} {f:ak→List ak}:qL l r f→qL (y::l) r (fun x=>y::f x)
theorem qL.idx {l:List ak} {r:ak} {f:ak→List ak} (h:qL l r f):∃i:Nat,l[i]?=some r∧∀x,l.set i x=f x:=by
 induction h with
 | h=>exact ⟨0,rfl,fun x=>rfl⟩
 | t _ ih=>obtain ⟨i,hi,hf⟩:=ih;exact ⟨i+1,hi,fun x=>by rw [List.set_cons_succ,hf]⟩
theorem Rel.st (H:Rel w0 V0 own V w) {b o:Nat} {c l:List Value} {t:TypeId} {f:ak→List ak} {k:World→Prop} (hk:cW c o l fun c'=>∀w',Rel w0 V0 (f (.al b c' t)) V w'→k w') (hm:qL own (.al b c t) f:=by repeat constructor) :
  ∃c t',jd w b c t'∧cW c o l fun c'=>∀w',hC w b c' t' w'→k w':=by
 obtain ⟨i,hi,hf⟩:=hm.idx
 simp only [←hf] at hk
 exact Rel.storeAt H hi hk
theorem an {p q:Prop} (hq:q) (hp:p:=by first|omega|assumption|exact rfl|exact RD _|exact K.base):p∧q:=⟨hp,hq⟩
theorem ol {p q r:Prop} (hq:q) (hp:p:=by first|omega|assumption):(p∧q)∨r:=.inl ⟨hp,hq⟩
theorem ea {α:Type} {p q:α→Prop} {x:α} (hq:q x) (hp:p x:=by assumption):∃x,p x∧q x:=⟨x,hp,hq⟩
theorem Rel.ce (H:Rel w0 V0 own V w) {b o:Nat} {c:List Value} {t:TypeId} {u:Value} {P:Value→Prop} (hk:P u) (hm:At own (.al b c t):=by repeat constructor) (h:c[o]?=some u:=by rfl):∃u,w.cell? ⟨b,o,none⟩=some u∧P u :=
 let ⟨_,hi⟩:=hm.idx;⟨u,H.Al hi h,hk⟩
theorem Rel.da (H:Rel w0 V0 own V w) {a:Addr} {u:Value} {P:Value→Prop} (h:V.cell? a=some u) (hk:P u):∃u,w.cell? a=some u∧P u:=⟨u,H.q9 h,hk⟩
theorem Rel.db (H:Rel w0 V0 own V w) {a:Addr} {u:Value} {P:Value→Prop} (hk:P u) (h:V.cell? a=some u:=by assumption):∃u,w.cell? a=some u∧P u:=⟨u,H.q9 h,hk⟩
theorem Rel.sx (H:Rel w0 V0 own V w) {own':List ak} (h:own'.Sublist own:=by repeat (first|exact List.Sublist.refl _|exact List.nil_sublist _|refine List.Sublist.cons_cons _ ?_|refine List.Sublist.cons _ ?_)):Rel w0 V0 own' V w:=H.sl h
theorem cT {p:Prop} {_:Decidable p} {F:Bool→Prop} (h1:F true) (h2:¬p→False:=by (intro h;omega)):gK 0 (decide p) F:=dw (fun _=>h1) fun h=>(h2 h).elim
theorem cF {p:Prop} {_:Decidable p} {F:Bool→Prop} (h1:F false) (h2:p→False:=by (intro h;omega)):gK 0 (decide p) F:=dw (fun h=>(h2 h).elim) fun _=>h1
theorem cN {p:Prop} {_:Decidable p} {F:Bool→Prop} (h1:F true) (h2:p→False:=by (intro h;omega)):gK 0 (!decide p) F:=tu (fun _=>h1) fun h=>(h2 h).elim
theorem cM {p:Prop} {_:Decidable p} {F:Bool→Prop} (h1:F false) (h2:¬p→False:=by (intro h;omega)):gK 0 (!decide p) F:=tu (fun h=>(h2 h).elim) fun _=>h1
structure sZ (p:Prop):Prop where
 go:p
theorem wk {G G':Prop} (h:G') (e:sZ G'→G:=by (intro hw;(repeat ((conv=>whnf);first|refine an ?_|refine Rel.ce H ?_|refine Rel.db H ?_|refine ea ?_|refine ol ?_|refine cT ?_|refine cF ?_|refine cN ?_|refine cM ?_|refine H.da (hc1 _ _ bo) ?_|refine H.ie hc1 bo ?_|refine H.ic hc1 bo ?_|refine H.da (hc2 _ _ bo) ?_|refine H.ie hc2 bo ?_|refine H.ic hc2 bo ?_|refine H.da (hc3 _ _ bo) ?_|refine H.ie hc3 bo ?_|refine H.ic hc3 bo ?_|refine H.da (hc4 _ _ bo) ?_|refine H.ie hc4 bo ?_|refine H.ic hc4 bo ?_|refine Rel.lw H ?_|refine Rel.ll H ?_));(conv=>whnf);exact hw.go)):G:=e ⟨h⟩
theorem Rel.wh (H:Rel w0 V0 own V w) {G G':Prop} (h:G') (e:sZ G'→G:=by (intro hw;(repeat ((conv=>whnf);first|refine an ?_|refine Rel.ce H ?_|refine Rel.db H ?_|refine ea ?_|refine ol ?_|(refine Rel.st H ?_;(conv=>whnf);(try clear H);intro wq H)|refine cT ?_|refine cF ?_|refine cN ?_|refine cM ?_|refine H.da (hc1 _ _ bo) ?_|refine H.ie hc1 bo ?_|refine H.ic hc1 bo ?_|refine H.da (hc2 _ _ bo) ?_|refine H.ie hc2 bo ?_|refine H.ic hc2 bo ?_|refine H.da (hc3 _ _ bo) ?_|refine H.ie hc3 bo ?_|refine H.ic hc3 bo ?_|refine H.da (hc4 _ _ bo) ?_|refine H.ie hc4 bo ?_|refine H.ic hc4 bo ?_|refine Rel.lw H ?_|refine Rel.ll H ?_));(conv=>whnf);revert H;(repeat revert wq);(repeat revert bq);exact hw.go)):G:=e ⟨h⟩
theorem Rel.sT (H:Rel w0 V0 own V w) {G G':Prop} (h:G') (e:sZ G'→G:=by (intro hw;(repeat ((conv=>whnf);first|refine an ?_|refine Rel.ce H ?_|refine Rel.db H ?_|refine ea ?_|refine ol ?_|(refine Rel.st H ?_;(conv=>whnf);(try clear H);intro wq H)|refine cT ?_|refine cF ?_|refine cN ?_|refine cM ?_|refine H.da (hc1 _ _ bo) ?_|refine H.ie hc1 bo ?_|refine H.ic hc1 bo ?_|refine H.da (hc2 _ _ bo) ?_|refine H.ie hc2 bo ?_|refine H.ic hc2 bo ?_|refine H.da (hc3 _ _ bo) ?_|refine H.ie hc3 bo ?_|refine H.ic hc3 bo ?_|refine H.da (hc4 _ _ bo) ?_|refine H.ie hc4 bo ?_|refine H.ic hc4 bo ?_|refine Rel.lw H ?_|refine Rel.ll H ?_));(conv=>whnf);refine sZ.go (p:=_) ?_;revert H;(repeat revert wq);(repeat revert bq);exact hw.go)):G:=e ⟨h⟩
theorem Rel.wg (H:Rel w0 V0 own V w) {G G':Prop} (h:G') (e:sZ G'→G:=by (intro hw;(repeat ((conv=>whnf);first|refine an ?_|((first|refine Rel.qf H ?_|refine Rel.nw H ?_);(try clear H);intro wq bq H)|refine Rel.ce H ?_|refine Rel.db H ?_|refine ea ?_|refine ol ?_|(refine Rel.st H ?_;(conv=>whnf);(try clear H);intro wq H)|refine cT ?_|refine cF ?_|refine cN ?_|refine cM ?_|refine H.da (hc1 _ _ bo) ?_|refine H.ie hc1 bo ?_|refine H.ic hc1 bo ?_|refine H.da (hc2 _ _ bo) ?_|refine H.ie hc2 bo ?_|refine H.ic hc2 bo ?_|refine H.da (hc3 _ _ bo) ?_|refine H.ie hc3 bo ?_|refine H.ic hc3 bo ?_|refine H.da (hc4 _ _ bo) ?_|refine H.ie hc4 bo ?_|refine H.ic hc4 bo ?_|refine Rel.lw H ?_|refine Rel.ll H ?_));(conv=>whnf);revert H;(repeat revert wq);(repeat revert bq);exact hw.go)):G:=e ⟨h⟩
end
theorem aB.wQ {S:Type} {C:Cx} {c:Code} {env:Env} {ds:List Deferred} {w:World} {Q:dU} (M:S→Env) (I:S→World→Prop)
  (h:aB C c env ds w (fun e au ds' w'=>match e with
   | .normal=>ds'=ds∧∃s,kq au (M s)∧I s w'
   | e=>Q e au ds' w'))
  (k:∀s w',I s w'→Q .normal (M s) ds w'):aB C c env ds w Q:=by
 refine ⟨fun a hs hn hd=>wpIn_mono (h.out a hs hn hd) fun e a' w' ⟨h1,au,h2,h3⟩=>?_⟩
 cases e with
 | normal =>
  simp only at h3
  obtain ⟨fI,s,h4,h5⟩:=h3
  exact ⟨h1,M s,fun t v ht=>h2 t v (l5 h4 t v ht),by rw [fI];exact k s w' h5⟩
 | _=>exact ⟨h1,au,h2,h3⟩
section
variable {C:Cx} {ops:List Oper} {xs ys:List Nat} {Rel:World→World→Prop} {Q:Exit→Act→World→Prop}
theorem bA.swap {i j:Nat} {o x:Oper} (hR:∀a b c:World,Rel a b→Rel b c→Rel a c) (hQ:∀d v ch a w,Q (.panic ch) (Act.put a d v) w→Q (.panic ch) a w) (hb:nC C.T ops.toArray xs ys j x i o=true) {K:Act→World→Prop} {a:Act} {w:World}
  (h:bA C ops xs ys Rel Q j x (bA C ops xs ys Rel Q i o K) a w):bA C ops xs ys Rel Q i o (bA C ops xs ys Rel Q j x K) a w:=by
 simp only [nC,Bool.and_eq_true,Bool.or_eq_true,Bool.not_eq_true',List.contains_iff_mem] at hb
 obtain ⟨⟨⟨⟨hq,Bx⟩,cJ⟩,uA⟩,aL⟩:=hb
 obtain ⟨a1,a2,a3⟩:=Oper.apart_spec Bx
 have Ci:∀cs b,x.op≠.select cs b:=fun cs b e=>by rw [e] at cJ;cases cJ
 have ho:∀(K:Act→World→Prop) (a:Act) (w:World),bA C ops xs ys Rel Q j x K a w↔if Region.wanted x (yielded ops.toArray a.tmps)=true then (if gA C.T x.op=true then ∃v,(∀w1,(qm x.op=true→(j∈ys∧Rel w w1)∨w1=w)→(Oper.semAt C.r a.eval x).run C.P w1=.ok (.value v) w1)∧K (a.put x.dst v) w
   else x.wpIn (Fr C.r) 0 C.P a w (fun a1 w1=>(j∈xs→Rel w w1)∧K a1 w1) Q) else K (a.put x.dst undef) w:=fun _ _ _=>Iff.rfl
 rw [ho] at h
 split at h
 ·rename_i hw
  obtain ⟨v,hv,h⟩:=h
  have h:=bA.wO uA a1 a2 (hQ x.dst v) h
  refine bA.mono h fun b w1 ⟨u,hb⟩ uG hg=>?_
  have hev:b.eval=(a.put o.dst u).eval:=by funext z;cases z<;>simp [Act.eval,hb]
  rw [ho,hb,wanted_put (fun t ht=>a3 t ht),if_pos hw,if_pos hq,hev,zl Ci (fun t ht=>a3 t ht)]
  refine ⟨v,fun w2 h2=>hv w2 fun hr=>?_,hg⟩
  rcases uG with rfl|⟨B3,hx⟩
  ·exact h2 hr
  ·rcases aL with (hqo|hnr)|⟨hi,hj⟩
   ·simp [hqo] at B3
   ·simp [hr] at hnr
   ·rcases h2 hr with ⟨_,h3⟩|rfl
    ·exact .inl ⟨hj,hR _ _ _ (hx hi) h3⟩
    ·exact .inl ⟨hj,hx hi⟩
 ·rename_i hw
  have h:=bA.wO uA a1 a2 (hQ x.dst undef) h
  refine bA.mono h fun b w1 ⟨u,hb⟩ uG hg=>?_
  rw [ho,hb,wanted_put (fun t ht=>a3 t ht),if_neg hw]
  exact hg
end
theorem Wh {C:Cx} (hT:aQ C.P C.T) {ops:List Oper} {xs ys:List Nat} {Q:Exit→Act→World→Prop} {K:Env→World→Prop} {Z:List PanicEntry→World→Prop} {ds:List Deferred} {i:Nat} {rest:List Nat} {r:ky} {G:Act→World→Prop}
  (hZ:∀(a:Act) w ch,a.tmps.size=C.n→a.defers=ds→Z ch w→Q (.panic ch) a w) (hr:∀env (a:Act) w,Sat env a.tmps→a.tmps.size=C.n→a.defers=ds→r env w K Z→G a w) {env:Env} {a:Act} {w:World} (hs:Sat env a.tmps) (hn:a.tmps.size=C.n) (hd:a.defers=ds)
  (h:r9 C ops xs i rest r env w K Z):∃o,ops[i]?=some o∧bA C ops xs ys Ext Q i o G a w:=by
 unfold r9 at h
 obtain ⟨o,ho,h⟩:=yC h
 refine ⟨o,ho,?_⟩
 simp only [bA]
 rcases rC h hs with ⟨hw,au,hs',h'⟩|⟨hw,au,hs',h'⟩
 ·rw [if_pos hw]
  cases hq:gA C.T o.op with
  | true =>
   rw [if_pos rfl]
   obtain ⟨v,h1,h2⟩:=zJ hT hs' hq h'
   refine ⟨v,fun w1 hr=>h1 w1 fun h=>(hr h).elim (·.2) (fun e=>e ▸ Ext.refl _),?_⟩
   obtain ⟨bQ,h3,h4,h5,h6⟩:=gV (wZ h2).2 hs' hn
   exact hr _ _ _ h3 h4 (h5.trans hd) h6
  | false =>
   rw [if_neg ae]
   refine qF hT hs' h' (fun v w' hk=>?_) (fun ch w' hz=>hZ a w' ch hn hd hz)
   obtain ⟨h1,h2⟩:=wZ hk
   refine ⟨fun hi=>h1 (mS.2 hi),?_⟩
   obtain ⟨bQ,h3,h4,h5,h6⟩:=gV h2 hs' hn
   exact hr _ _ _ h3 h4 (h5.trans hd) h6
 ·rw [if_neg (by simp [hw])]
  obtain ⟨bQ,h3,h4,h5,h6⟩:=gV h' hs' hn
  exact hr _ _ _ h3 h4 (h5.trans hd) h6
def mr (j:Nat):List Nat→List Nat
 | []=>[]
 | i::r=>match Nat.beq i j with
  | true=>r
  | false=>i::mr j r
theorem F6 {j:Nat} {A B:List Nat} (h:j∉A):mr j (A++j::B)=A++B:=by
 induction A with
 | nil=>simp [mr]
 | cons x A ih =>
  have hx:Nat.beq x j=false:=by
   cases e:Nat.beq x j with
   | false=>rfl
   | true=>exact absurd (by rw [Nat.eq_of_beq_eq_true e];simp) h
  simp only [List.cons_append,mr,hx]
  rw [ih (fun hc=>h (by simp [hc]))]
abbrev eG:=List (Nat×List Nat)
def xi (R:List Nat):List Nat→Bool
 | []=>true
 | x::r=>match iP x R with
  | true=>false
  | false=>xi R r
theorem GY {R an:List Nat} (h:∀x∈an,x∉R):xi R an=true:=by
 induction an with
 | nil=>rfl
 | cons x r ih =>
  have:iP x R=false:=by
   cases e:iP x R with
   | false=>rfl
   | true=>exact absurd (mS.1 e) (h x ae)
  simp only [xi,this]
  exact ih fun y hy=>h y (by simp [hy])
def mo (R:List Nat) (j:Nat) (an:List Nat):Bool:=match iP j R with
 | true=>xi R an
 | false=>false
def wj (R:List Nat):eG→Bool
 | []=>false
 | (j,an)::r=>match mo R j an with
  | true=>true
  | false=>wj R r
def iL (i:Nat):eG→Bool
 | []=>false
 | (j,_)::r=>match Nat.beq i j with
  | true=>true
  | false=>iL i r
theorem IE {i:Nat} {E:eG}:iL i E=true↔∃an,(i,an)∈E:=by
 induction E with
 | nil=>simp [iL]
 | cons p r ih =>
  obtain ⟨j,an⟩:=p
  simp only [iL]
  cases e:Nat.beq i j with
  | true =>
   have:=Nat.eq_of_beq_eq_true e
   subst this
   simp only [true_iff]
   exact ⟨an,ae⟩
  | false =>
   have hne:=Nat.ne_of_beq_eq_false e
   simp only
   rw [ih]
   constructor
   ·rintro ⟨a,ha⟩;exact ⟨a,by simp [ha]⟩
   ·rintro ⟨a,ha⟩
    rcases List.mem_cons.1 ha with h|h
    ·exact absurd (Prod.mk.inj h).1 hne
    ·exact ⟨a,h⟩
def ji (R:List Nat) (f:Nat→Prop):eG→Prop
 | []=>True
 | (j,an)::r=>match mo R j an with
  | true=>(match wj R r with
   | true=>f j∧ji R f r
   | false=>f j)
  | false=>ji R f r
theorem E9 {R:List Nat} {f:Nat→Prop} {E:eG} (h:ji R f E):∀j an,(j,an)∈E→mo R j an=true→f j:=by
 induction E with
 | nil=>intro j an hm;simp at hm
 | cons p r ih =>
  obtain ⟨i,bn⟩:=p
  intro j an hm hc
  simp only [ji] at h
  have MM:∀(E:eG),(j,an)∈E→wj R E=true:=by
   intro E
   induction E with
   | nil=>intro h;simp at h
   | cons q E RE =>
    obtain ⟨k,cn⟩:=q
    intro hq
    simp only [wj]
    cases hk:mo R k cn with
    | true=>rfl
    | false =>
     rcases List.mem_cons.1 hq with e|hq
     ·cases e;rw [hc] at hk;cases hk
     ·exact RE hq
  rcases List.mem_cons.1 hm with e|hm
  ·cases e
   rw [hc] at h
   simp only at h
   split at h
   ·exact h.1
   ·exact h
  ·have ha:=MM r hm
   cases hi:mo R i bn with
   | true=>rw [hi,ha] at h;exact ih h.2 j an hm hc
   | false=>rw [hi] at h;exact ih h j an hm hc
section
variable {C:Cx} {ops:List Oper} {xs ys:List Nat} {Rel:World→World→Prop} {Q:Exit→Act→World→Prop}
variable (C ops xs ys Rel Q) in
def dB (E:eG):Nat→List Nat→Act→World→Prop
 | 0,_,a,w=>Q .normal a w
 | _+1,[],a,w=>Q .normal a w
 | n+1,i::r,a,w=>match iL i E with
  | true=>ji (i::r) (fun j=>∀o,ops[j]?=some o→bA C ops xs ys Rel Q j o (dB E n (mr j (i::r))) a w) E
  | false=>∀o,ops[i]?=some o→bA C ops xs ys Rel Q i o (dB E n r) a w
def mU (T:List TD) (ops:List Oper) (xs ys:List Nat) (E:eG):List Nat→Bool
 | []=>true
 | x::r=>(match ops[x]? with
  | some ox=>r.all fun i=>(hH ops ops.length i).contains x||(iL x E&&iL i E)||(!iL x E&&(match ops[i]? with
   | some oi=>nC T ops.toArray xs ys x ox i oi
   | none=>false))
  | none=>false)&&mU T ops xs ys E r
theorem TQ {E:eG} {A B:List Nat} {i:Nat}:mU C.T ops xs ys E (A++i::B)=true→mU C.T ops xs ys E (A++B)=true:=by
 induction A with
 | nil=>intro h;simp only [List.nil_append,mU,Bool.and_eq_true] at h ⊢;exact h.2
 | cons x A ih =>
  intro h
  simp only [List.cons_append,mU,Bool.and_eq_true] at h ⊢
  refine ⟨?_,ih h.2⟩
  have h1:=h.1
  cases ho:ops[x]? with
  | none=>simp [ho] at h1
  | some o =>
   simp only [ho] at h1
   refine List.all_eq_true.2 fun j hj=>List.all_eq_true.1 h1 j ?_
   simp only [List.mem_append,List.mem_cons] at hj ⊢
   rcases hj with hj|hj
   ·exact .inl hj
   ·exact .inr (.inr hj)
theorem dB.move {E:eG} {i:Nat} {o:Oper} {B:List Nat} (ho:ops[i]?=some o) (hR:∀a b c:World,Rel a b→Rel b c→Rel a c) (hQ:∀d v ch a w,Q (.panic ch) (Act.put a d v) w→Q (.panic ch) a w)
  (hE:∀an,(i,an)∈E→∀x∈an,x∈hH ops ops.length i):∀ {A:List Nat} {n:Nat} {a:Act} {w:World},(A++i::B).length=n+1→(A++i::B).Nodup→(∀x∈A++i::B,x∉hH ops ops.length i) →
  mU C.T ops xs ys E (A++i::B)=true→dB C ops xs ys Rel Q E (n+1) (A++i::B) a w→bA C ops xs ys Rel Q i o (dB C ops xs ys Rel Q E n (A++B)) a w
 | [],n,a,w,hl,ed,hna,hp,h=>by
  simp only [List.nil_append] at h hna ⊢
  simp only [dB] at h
  cases he:iL i E with
  | false=>rw [he] at h;exact h o ho
  | true =>
   rw [he] at h
   obtain ⟨an,tY⟩:=IE.1 he
   have hc:mo (i::B) i an=true:=by
    unfold mo
    rw [mS.2 ae]
    exact GY fun x hx hm=>hna x hm (hE an tY x hx)
   have:=E9 h i an tY hc o ho
   have e:mr i (i::B)=B:=F6 (A:=[]) ae
   rw [e] at this
   exact this
 | x::A,n,a,w,hl,ed,hna,hp,h=>by
  have xU:=hp
  simp only [List.cons_append,mU,Bool.and_eq_true] at hp
  cases he:iL x E with
  | false =>
   obtain ⟨m,rfl⟩:∃m,n=m+1:=⟨n - 1,by simp at hl;omega⟩
   have h1:=hp.1
   cases hx:ops[x]? with
   | none=>rw [hx] at h1;cases h1
   | some ox =>
    rw [hx] at h1
    have h1:=List.all_eq_true.1 h1 i ae
    rw [he,ho] at h1
    simp only [Bool.false_and,Bool.or_false,Bool.not_false,Bool.true_and,Bool.or_eq_true,List.contains_iff_mem] at h1
    have hb:=h1.resolve_left (hna x ae)
    simp only [List.cons_append,dB,he] at h
    have h2:=bA.swap hR hQ hb (bA.mono (h ox hx) fun a1 w1 _ _ hg=>dB.move (B:=B) ho hR hQ hE (A:=A) (by simp at hl ⊢;omega) (List.nodup_cons.1 ed).2 (fun y hy=>hna y (by simp at hy ⊢;exact .inr hy)) hp.2 hg)
    refine bA.mono h2 fun a1 w1 _ _ hg=>?_
    simp only [List.cons_append,dB,he]
    intro o' gP
    rw [hx] at gP
    cases gP
    exact hg
  | true =>
   simp only [List.cons_append,dB,he] at h
   have h1:=hp.1
   cases hx:ops[x]? with
   | none=>rw [hx] at h1;cases h1
   | some ox =>
    rw [hx] at h1
    have h1:=List.all_eq_true.1 h1 i ae
    rw [he,ho] at h1
    simp only [Bool.not_true,Bool.false_and,Bool.or_false,Bool.true_and,Bool.or_eq_true,List.contains_iff_mem] at h1
    have QK:=h1.resolve_left (hna x ae)
    obtain ⟨an,tY⟩:=IE.1 QK
    have hc:mo (x::(A++i::B)) i an=true:=by
     unfold mo
     rw [mS.2 ae]
     exact GY fun y hy hm=>hna y (by simpa using hm) (hE an tY y hy)
    have:=E9 h i an tY hc o ho
    have uv:i∉x::A:=by
     intro hc
     have:=List.nodup_append.1 (show ((x::A)++i::B).Nodup from ed)
     exact this.2.2 i hc i ae rfl
    have e:mr i (x::(A++i::B))=x::A++B:=F6 (A:=x::A) uv
    rw [e] at this
    exact this
theorem dB.any {E:eG} (Br:∀a b c:World,Rel a b→Rel b c→Rel a c) (hQ:∀d v ch a w,Q (.panic ch) (Act.put a d v) w→Q (.panic ch) a w) (hE:∀i an,(i,an)∈E→∀x∈an,x∈hH ops ops.length i):∀(fuel:Nat) (R:List Nat) (listed:Array Bool) (a:Act) (w:World),R.length≤fuel→R.Nodup→listed.size=ops.length →
  (∀i,i<ops.length→(listed.getD i true=false↔i∈R))→(∀i∈R,i<ops.length)→(∀i o,ops[i]?=some o→listed.getD i true=true→∀j∈lT o,listed.getD j false=true) →
  ku ops R=true→mU C.T ops xs ys E R=true→dB C ops xs ys Rel Q E R.length R a w→wpAnyIn (Fr C.r) 0 C.P .any ops.toArray Q fuel listed a w:=by
 intro fuel
 induction fuel with
 | zero =>
  intro R listed a w hl ed hsz hR hlt hcl ht hp h
  have:R=[]:=List.eq_nil_of_length_eq_zero aa
  subst this
  refine ⟨?_,h⟩
  rw [List.eq_nil_iff_forall_not_mem]
  intro i hi
  obtain ⟨o,ho,h1,_⟩:=sy.1 hi
  exact absurd ((hR i (List.getElem?_eq_some_iff.1 ho).1).1 h1) ae
 | succ fuel ih =>
  intro R listed a w hl ed hsz hR hlt hcl ht hp h
  have ui:∀j,j<ops.length→listed.getD j false=listed.getD j true:=by
   intro j hj
   have:j<listed.size:=aa
   simp [Array.getD,this]
  have uj:∀j,listed.getD j false=true→listed.getD j true=true:=by
   intro j hj
   by_cases hlt:j<listed.size
   ·simpa [Array.getD,hlt] using hj
   ·simp [Array.getD,hlt] at hj
  refine ⟨fun B1=>?_,fun i hi=>?_⟩
  ·cases R with
   | nil=>exact h
   | cons x R =>
    exfalso
    simp only [ku,Bool.and_eq_true] at ht
    have hx:x∈Region.ready .any ops.toArray listed:=by
     have h1:=ht.1
     split at h1
     ·rename_i o ho
      refine sy.2 ⟨o,ho,(hR x (hlt x ae)).2 ae,fun j hj=>?_⟩
      have:=List.all_eq_true.1 h1 j hj
      simp only [Bool.and_eq_true,decide_eq_true_eq,Bool.not_eq_true',←Bool.not_eq_true,List.contains_iff_mem] at this
      rw [ui j this.1]
      cases hv:listed.getD j true with
      | true=>rfl
      | false=>exact absurd ((hR j this.1).1 hv) this.2
     ·cases h1
    rw [B1] at hx
    simp at hx
  ·obtain ⟨o,ho,h1,h2⟩:=sy.1 hi
   have BQ:=(List.getElem?_eq_some_iff.1 ho).1
   have BP:=(hR i BQ).1 h1
   obtain ⟨A,B,rfl⟩:=List.append_of_mem BP
   have hna:∀x∈A++i::B,x∉hH ops ops.length i:=by
    intro x hx hc
    have hxl:=ER hcl uj ops.length i o ho h2 x hc
    have Cp:=hlt x hx
    have:=(hR x Cp).2 hx
    rw [uj x hxl] at this
    cases this
   have hlen:(A++i::B).length=(A++B).length+1:=by simp;omega
   rw [hlen] at h
   have hm:=dB.move ho Br hQ (hE i) hlen ed hna hp h
   refine wpOpIn_mono (fun a1 w1 hg=>?_) (bA.sound ho hm)
   have uv:i∉A++B:=by
    have:=ed
    rw [List.nodup_append] at this
    intro hc
    rcases List.mem_append.1 hc with hc|hc
    ·exact this.2.2 i hc i ae rfl
    ·exact (List.nodup_cons.1 this.2.1).1 hc
   have mM:∀j d,(listed.setIfInBounds i true).getD j d=if i=j then true else listed.getD j d:=by
    intro j d
    by_cases hj:j<listed.size
    ·by_cases e:i=j
     ·subst e;simp [Array.getD,hj]
     ·simp [Array.getD,hj,e]
    ·by_cases e:i=j
     ·subst e;omega
     ·simp [Array.getD,hj,e]
   refine ih (A++B) _ a1 w1 (by simp at hl ⊢;omega) ?_ (by simpa using hsz) ?_ ?_ ?_ (La ht) (TQ hp) hg
   ·have:=ed
    rw [List.nodup_append] at this ⊢
    refine ⟨this.1,(List.nodup_cons.1 this.2.1).2,fun x hx y hy=>this.2.2 x hx y (by simp [hy])⟩
   ·intro j hj
    rw [mM]
    by_cases e:i=j
    ·subst e;simp only [if_true];exact ⟨fun h=>(by cases h),fun h=>absurd h uv⟩
    ·rw [if_neg e,hR j hj]
     simp only [List.mem_append,List.mem_cons]
     constructor
     ·rintro (h|h|h)
      ·exact .inl h
      ·exact absurd h.symm e
      ·exact .inr h
     ·rintro (h|h)
      ·exact .inl h
      ·exact .inr (.inr h)
   ·intro j hj
    refine hlt j ?_
    simp only [List.mem_append,List.mem_cons] at hj ⊢
    rcases hj with hj|hj
    ·exact .inl hj
    ·exact .inr (.inr hj)
   ·intro j oj kP pR k hk
    rw [mM] at pR ⊢
    by_cases e:i=j
    ·subst e
     rw [ho] at kP
     cases kP
     have:=h2 k hk
     split
     ·rfl
     ·exact this
    ·rw [if_neg e] at pR
     have:=hcl j oj kP pR k hk
     split
     ·rfl
     ·exact this
end
abbrev mi:=List Nat→ky
def Jq:mi:=fun _=>yD
def CX (C:Cx) (ops:List Oper) (xs:List Nat) (E:eG) (_:Nat) (_:List Nat) (r:mi):mi:=fun R env w K Z=>match R with
 | []=>K env w
 | i::rest=>match iL i E with
  | true=>ji (i::rest) (fun j=>r9 C ops xs j [] (r (mr j (i::rest))) env w K Z) E
  | false=>r9 C ops xs i [] (r rest) env w K Z
noncomputable def zG (C:Cx) (ops:List Oper) (xs:List Nat) (E:eG) (l:List Nat):mi:=List.rec (motive:=fun _=>mi) Jq (CX C ops xs E) l
theorem LP {C:Cx} (hT:aQ C.P C.T) {ops:List Oper} {xs ys:List Nat} {E:eG} {Q:Exit→Act→World→Prop} {K:Env→World→Prop} {Z:List PanicEntry→World→Prop} {ds:List Deferred}
  (hQ:∀env (a:Act) w,Sat env a.tmps→a.tmps.size=C.n→a.defers=ds→K env w→Q .normal a w) (hZ:∀(a:Act) w ch,a.tmps.size=C.n→a.defers=ds→Z ch w→Q (.panic ch) a w) :
  ∀ {l R:List Nat} {env:Env} {a:Act} {w:World},Sat env a.tmps→a.tmps.size=C.n→a.defers=ds→zG C ops xs E l R env w K Z→dB C ops xs ys Ext Q E l.length R a w
 | [],R,env,a,w,hs,hn,hd,h=>hQ env a w hs hn hd h
 | f::l,[],env,a,w,hs,hn,hd,h=>hQ env a w hs hn hd h
 | f::l,i::rest,env,a,w,hs,hn,hd,h=>by
  have h:CX C ops xs E f l (zG C ops xs E l) (i::rest) env w K Z:=h
  have one:∀j R',r9 C ops xs j [] (zG C ops xs E l R') env w K Z→∀o,ops[j]?=some o→bA C ops xs ys Ext Q j o (dB C ops xs ys Ext Q E l.length R') a w:=by
   intro j R' hj o ho
   obtain ⟨o',gP,h'⟩:=Wh (ys:=ys) (G:=dB C ops xs ys Ext Q E l.length R') hT hZ (fun env a w h1 h2 h3 h4=>LP hT hQ hZ h1 h2 h3 h4) hs hn hd hj
   rw [ho] at gP
   cases gP
   exact h'
  unfold CX at h
  simp only [List.length_cons,dB]
  cases he:iL i E with
  | false =>
   simp only [he] at h
   exact one i rest h
  | true =>
   simp only [he] at h ⊢
   have mono:∀(E':eG) (f g:Nat→Prop),(∀j,f j→g j)→ji (i::rest) f E'→ji (i::rest) g E':=by
    intro E' f g uh
    induction E' with
    | nil=>exact fun h=>h
    | cons p E' ih =>
     obtain ⟨j,an⟩:=p
     simp only [ji]
     split
     ·split
      ·exact fun h=>⟨uh j h.1,ih h.2⟩
      ·exact uh j
     ·exact ih
   exact mono E _ _ (fun j hj=>one j _ hj) h
def yG (T:List TD) (ops:List Oper) (xs ys π:List Nat) (E:eG):Bool :=
 ku ops π&&mU T ops xs ys E π&&((List.range ops.length).all fun i=>π.contains i)&&decide (π.length=ops.length)&&decide π.Nodup&&(π.all fun i=>decide (i<ops.length))&&E.all fun p=>p.2.all fun x=>(hH ops ops.length p.1).contains x
theorem Gf {C:Cx} (hT:aQ C.P C.T) (hm:C.P.follows .mixedOrders=true) {id:Nat} {ops:Array Oper} {env:Env} {ds:List Deferred} {w:World} {Q:dU} (xs π:List Nat) (E:eG)
  (hok:yG C.T ops.toList xs π π E=true)
  (h:∀w1,sX w w1→zG C ops.toList xs E π π env w1 (fun au w'=>iT au C.live fun e'=>Q .normal e' ds w') (fun ch w'=>Q (.panic ch) [] ds w')) :
  aB C (.region id ops true) env ds w Q:=by
 refine ⟨fun a hs hn hd=>?_⟩
 simp only [yG,Bool.and_eq_true,decide_eq_true_eq] at hok
 obtain ⟨⟨⟨⟨⟨⟨ht,hp⟩,hall⟩,hlen⟩,pT⟩,pS⟩,hE⟩:=hok
 have hmem:∀i,i<ops.toList.length→i∈π:=fun i hi=>by simpa using List.all_eq_true.1 hall i (by simpa using hi)
 have key:=h { w with drawn:=w.drawn+1 } ⟨rfl,rfl,rfl,rfl,Nat.le_refl _,fun _ _=>rfl⟩
 let Q':Exit→Act→World→Prop:=fun e a' w'=>a'.tmps.size=C.n∧match e with
  | .panic ch=>Q (.panic ch) [] a'.defers w'
  | e=>∃au,Sat au a'.tmps∧Q e au a'.defers w'
 refine wpIn_mono (Q:=Q') ?_ (fun e a' w' hq=>?_)
 ·refine wpIn_region_any hm ?_
  have hg:dB C ops.toList xs π Ext Q' E π.length π a { w with drawn:=w.drawn+1 }:=by
   refine LP hT (ds:=ds) (fun au a' w' h1 h2 h3 h4=>?_) (fun a' w' ch h1 h2 h3=>?_) hs hn hd key
   ·obtain ⟨e',h5,h6⟩:=lU h4
    exact ⟨h2,e',fun t v ht=>h1 t v (h5 t v ht),h3 ▸ h6⟩
   ·exact ⟨h1,h2 ▸ h3⟩
  have hlt:∀i∈π,i<ops.toList.length:=fun i hi=>by simpa using List.all_eq_true.1 pS i hi
  have:=dB.any (C:=C) (ops:=ops.toList) (xs:=xs) (ys:=π) (Rel:=Ext) (Q:=Q') (fun _ _ _ h k=>Ext.trans h k) (fun d v ch a w hq=>by
   obtain ⟨h1,h2⟩:=hq
   refine ⟨?_,?_⟩
   ·cases d<;>simpa [Act.put] using h1
   ·cases d<;>exact h2) (fun i an hi x hx=>by simpa using List.all_eq_true.1 (List.all_eq_true.1 hE _ hi) x hx) ops.size π (Array.replicate ops.size false) a { w with drawn:=w.drawn+1 } (by simp [hlen]) pT ae (fun i hi=>?_) hlt (fun i o ho hl=>?_) ht hp hg
  ·simpa using this
  ·have:i<ops.size:=by simpa using hi
   simp [Array.getD,this,hmem i hi]
  ·have:i<ops.size:=by simpa using (List.getElem?_eq_some_iff.1 ho).1
   simp [Array.getD,this] at hl
 ·obtain ⟨h1,h2⟩:=hq
  cases e with
  | panic ch=>exact ⟨h1,[],Sat.nil _,h2⟩
  | _=>exact ⟨h1,h2⟩
section
variable {C:Cx} {env:Env} {ds:List Deferred} {w:World} {Q:dU}
theorem aB.seq {x y:Code} (h:aB C x env ds w fun e au ds' w'=>match e with
  | .normal=>aB C y au ds' w' Q
  | e=>Q e au ds' w'):aB C (.seq x y) env ds w Q:=by
 refine ⟨fun a hs hn hd=>wpIn_seq (wpIn_mono (h.out a hs hn hd) fun e a' w' ⟨h1,au,h2,h3⟩=>?_)⟩
 cases e with
 | normal=>exact h3.out a' h2 h1 rfl
 | _=>exact ⟨h1,au,h2,h3⟩
theorem aB.cc (hT:aQ C.P C.T) {x y:Code} (h:dT C x env ds w fun e au ds' w'=>match e with
  | .normal=>aB C y au ds' w' Q
  | e=>Q e au ds' w'):aB C (.seq x y) env ds w Q:=aB.seq (ma hT h)
theorem aB.lZ {S:Type} (hT:aQ C.P C.T) (M:S→Env) (I:S→World→Prop) {x y:Code} (h:dT C x env ds w fun e au ds' w'=>match e with
  | .normal=>ds'=ds∧∃s,kq au (M s)∧I s w'
  | e=>Q e au ds' w') (k:∀s w',I s w'→aB C y (M s) ds w' Q):aB C (.seq x y) env ds w Q :=
 aB.seq (aB.wQ M I (aB.mono (ma hT h) fun e env ds w h=>by cases e<;>exact h) k)
theorem aB.go (hT:aQ C.P C.T) {x:Code} (h:dT C x env ds w Q):aB C x env ds w Q:=ma hT h
end
theorem nE {P:Program} {T:List TD} (hT:aQ P T) {f:FuncId} {fn:Func} {c:Code} {args:List Value} {w:World} {K:Value→World→Prop} {Z:List PanicEntry→World→Prop}
  (hf:P.funcs[f]?=some fn) (hb:fn.body=some c) (hname:(fn.name == "runtime.NumGoroutine")=false) (n:Nat) (hn:fn.ntmps=n) (ha:args.length≤n) (live:List Nat)
  (h:aB ⟨P,T,n,live,none⟩ c (hK 0 args) [] w (A7 ⟨P,T,n,live,none⟩ fn.results.toList K Z)):aX P f args.toArray w K Z:=by
 refine ⟨.inl ⟨ph hf (by simp [hb]) hname,(tn (r:=none) (n:=0)).1 ?_⟩⟩
 refine callsIn_of_wp_marks hf hb trivial ?_
 have hs:Sat (hK 0 args) (args.toArray++Array.replicate (fn.ntmps - args.toArray.size) undef):=wm
 refine wpIn_mono (h.out { tmps:=args.toArray++Array.replicate (fn.ntmps - args.toArray.size) undef,defers:=[] } hs (by simp;omega) rfl) ?_
 rintro e a w' ⟨h1,au,h2,h3⟩
 have fin:∀ {ds w},(mR ds w fun w'=>lW ⟨P,T,n,live,none⟩ fn.results.toList au w' fun v=>K v w')→LeavesInM (Fr none) 0 P fn a.tmps (fun e w'=>match e with|.returned v=>K v w'|.panicked ch=>Z ch w'|.outgrown=>False) ds .returning w:=by
  intro ds w h
  refine uW ae h fun w' h=>?_
  obtain ⟨v,hr,hk⟩:=zb (C:=⟨P,T,n,live,none⟩) hT h2 h
  exact ⟨v,hr,hk⟩
 cases e with
 | normal=>exact fin h3
 | ret=>exact fin h3
 | panic ch=>exact uW ae h3 fun w' h=>h
 | exit id=>exact h3.elim
 | goto l=>exact h3.elim
 | outgrown=>exact h3.elim
abbrev ai:TD:=⟨.func,1,8,some (.nilFunc),false⟩
abbrev lB:TD:=⟨.other,1,0,some (.tuple #[.slice none 0 0,.bool false]),false⟩
abbrev nJ:TD:=⟨.struct [(0,3),(1,22)],2,32,some (.agg #[.int .i64 0,.slice none 0 0]),false⟩
abbrev tC:TD:=⟨.iface,1,16,some (.nilIface),false⟩
abbrev tD:TD:=⟨.other,1,0,some (.tuple #[.slice none 0 0,.int .i64 0,.agg #[.int .i64 0,.int .i64 0]]),false⟩
abbrev wS:TD:=⟨.int .u8,1,1,some (.int .u8 0),false⟩
abbrev wT:TD:=⟨.other,1,0,some (.tuple #[.slice none 0 0,.slice none 0 0]),false⟩
abbrev AL:TD:=⟨.int .i64,1,8,some (.int .i64 0),false⟩
abbrev AM:TD:=⟨.string,1,16,some (.string ⟨#[]⟩),false⟩
abbrev AN:TD:=⟨.int .u64,1,8,some (.int .u64 0),false⟩
abbrev AF:TD:=⟨.int .i32,1,4,some (.int .i32 0),false⟩
abbrev AG:TD:=⟨.struct [(0,3),(1,3)],2,16,some (.agg #[.int .i64 0,.int .i64 0]),false⟩
abbrev AH:TD:=⟨.struct [],0,0,some (.agg #[]),false⟩
abbrev AJ:TD:=⟨.other,1,0,some (.tuple #[.slice none 0 0,.int .i64 0]),false⟩
abbrev AK:TD:=⟨.other,1,0,some (.tuple #[.slice none 0 0,.slice none 0 0,.bool false]),false⟩
abbrev Fs:TD:=⟨.struct [(0,2),(1,3),(2,4),(3,6)],4,24,some (.agg #[.int .i64 0,.int .i64 0,.bool false,.int .u8 0]),false⟩
abbrev Ft:TD:=⟨.struct [(0,9),(1,12)],2,24,some (.agg #[.string ⟨#[]⟩,.int .u64 0]),false⟩
abbrev Fu:TD:=⟨.struct [(0,17)],1,8,some (.agg #[.pointer none]),false⟩
abbrev Fv:TD:=⟨.struct [(0,3),(1,3),(2,22),(3,24),(4,25)],5,88,some (.agg #[.int .i64 0,.int .i64 0,.slice none 0 0,.slice none 0 0,.slice none 0 0]),false⟩
abbrev Fw:TD:=⟨.struct [(0,3),(1,27),(6,22)],7,120,some (.agg #[.int .i64 0,.int .i64 0,.int .i64 0,.slice none 0 0,.slice none 0 0,.slice none 0 0,.slice none 0 0]),false⟩
abbrev Fy:TD:=⟨.other,1,0,some (.tuple #[.slice none 0 0,.agg #[.int .i64 0,.int .i64 0]]),false⟩
abbrev Fz:TD:=⟨.other,1,0,some (.tuple #[.agg #[.int .i64 0,.int .i64 0,.slice none 0 0,.slice none 0 0,.slice none 0 0],.slice none 0 0,.bool false]),false⟩
abbrev FA:TD:=⟨.struct [(0,56),(1,63),(2,68)],3,24,some (.agg #[.nilFunc,.nilFunc,.nilFunc]),false⟩
abbrev FB:TD:=⟨.struct [(0,3),(1,3),(2,3),(3,22)],4,48,some (.agg #[.int .i64 0,.int .i64 0,.int .i64 0,.slice none 0 0]),false⟩
abbrev FC:TD:=⟨.struct [(0,106),(1,50),(2,4)],3,56,some (.agg #[.slice none 0 0,.slice none 0 0,.bool false]),false⟩
abbrev FD:TD:=⟨.other,1,0,some (.tuple #[.int .i64 0,.slice none 0 0,.bool false]),false⟩
abbrev FE:TD:=⟨.struct [(0,3),(1,146)],2,32,some (.agg #[.int .i64 0,.slice none 0 0]),false⟩
abbrev FF:TD:=⟨.other,1,0,some (.tuple #[.agg #[.int .i64 0,.slice none 0 0],.bool false]),false⟩
abbrev FG:TD:=⟨.struct [(0,3),(1,158)],2,32,some (.agg #[.int .i64 0,.slice none 0 0]),false⟩
abbrev FH:TD:=⟨.other,1,0,some (.tuple #[.int .i64 0,.int .i64 0,.slice none 0 0,.bool false]),false⟩
abbrev FI:TD:=⟨.struct [(0,3),(1,3),(2,3)],3,24,some (.agg #[.int .i64 0,.int .i64 0,.int .i64 0]),false⟩
abbrev FJ:TD:=⟨.struct [(0,171),(3,50),(4,172)],5,72,some (.agg #[.int .i64 0,.int .i64 0,.int .i64 0,.slice none 0 0,.slice none 0 0]),false⟩
abbrev FK:TD:=⟨.struct [(0,3),(1,4)],2,16,some (.agg #[.int .i64 0,.bool false]),false⟩
abbrev FL:TD:=⟨.struct [(0,185),(2,106),(3,50),(4,4)],5,72,some (.agg #[.int .i64 0,.bool false,.slice none 0 0,.slice none 0 0,.bool false]),false⟩
abbrev FM:TD:=⟨.struct [(0,22),(1,3),(2,9),(3,202)],4,56,some (.agg #[.slice none 0 0,.int .i64 0,.string ⟨#[]⟩,.map none]),false⟩
abbrev FN:TD:=⟨.struct [(0,209),(1,50),(2,3)],3,56,some (.agg #[.slice none 0 0,.slice none 0 0,.int .i64 0]),false⟩
abbrev FO:TD:=⟨.struct [(0,27),(5,50)],6,112,some (.agg #[.int .i64 0,.int .i64 0,.slice none 0 0,.slice none 0 0,.slice none 0 0,.slice none 0 0]),false⟩
abbrev FP:TD:=⟨.struct [(0,5),(1,5)],2,2,some (.agg #[.int .u8 0,.int .u8 0]),false⟩
abbrev FQ:TD:=⟨.struct [(0,5),(1,22)],2,32,some (.agg #[.int .u8 0,.slice none 0 0]),false⟩
abbrev FR:TD:=⟨.struct [(0,279),(2,3)],3,40,some (.agg #[.int .u8 0,.slice none 0 0,.int .i64 0]),false⟩
abbrev FT:TD:=⟨.struct [(0,22),(1,3),(2,9),(3,195)],4,72,some (.agg #[.slice none 0 0,.int .i64 0,.string ⟨#[]⟩,.slice none 0 0]),false⟩
abbrev FU:TD:=⟨.struct [(0,185),(2,22)],3,40,some (.agg #[.int .i64 0,.bool false,.slice none 0 0]),false⟩
abbrev FV:TD:=⟨.array 256 4,256,256,some (.agg (List.replicate 256 (.bool false)).toArray),false⟩
abbrev FW:TD:=⟨.other,1,0,some (.tuple #[.int .i64 0,.nilIface]),false⟩
abbrev FX:TD:=⟨.other,1,0,some (.tuple #[.int .u64 0,.int .u64 0]),false⟩
abbrev FY:TD:=⟨.struct [(0,9),(1,9),(2,369)],3,48,some (.agg #[.string ⟨#[]⟩,.string ⟨#[]⟩,.nilIface]),false⟩
abbrev FZ:TD:=⟨.struct [(0,9)],1,16,some (.agg #[.string ⟨#[]⟩]),false⟩
abbrev F0:TD:=⟨.struct [(0,17),(1,17),(2,17),(3,9)],4,40,some (.agg #[.pointer none,.pointer none,.pointer none,.string ⟨#[]⟩]),false⟩
abbrev F1:TD:=⟨.blank,0,0,some (.agg #[]),false⟩
abbrev F2:TD:=⟨.struct [(0,12),(1,12),(2,321),(3,431),(4,5),(5,5),(6,432),(7,433),(8,420),(9,434),(10,435)],11,48,some (.agg #[.int .u64 0,.int .u64 0,.int .u32 0,.int .u8 0,.int .u8 0,.int .u8 0,.int .u8 0,.nilFunc,.pointer none,.int .i32 0,.int .i32 0]),false⟩
def nh:List TD:=[⟨.other,1,0,some (.tuple #[]),false⟩,ai,AL,AL,⟨.bool,1,1,some (.bool false),false⟩,wS,wS,Fs,Fs,AM,AM,AM,AN,Ft,Ft,⟨.pointer 427,1,8,some (.pointer none),false⟩,⟨.pointer 430,1,8,some (.pointer none),false⟩,⟨.pointer 437,1,8,some (.pointer none),false⟩,Fu,Fu,tC,AF,⟨.slice 5,1,24,some (.slice none 0 0),false⟩,ai,⟨.slice 9,1,24,some (.slice none 0 0),false⟩,⟨.slice 27,1,24,some (.slice none 0 0),false⟩,Fv,Fv,Fw,Fw,AG,⟨.struct [(0,3),(1,3)],2,16,some (.agg #[.int .i64 0,.int .i64 0]),true⟩,⟨.other,1,0,some (.tuple #[.agg #[.int .i64 0,.int .i64 0,.int .i64 0,.slice none 0 0,.slice none 0 0,.slice none 0 0,.slice none 0 0],.agg #[.int .i64 0,.int .i64 0]]),false⟩,ai,ai,ai,ai,ai,Fy,ai,ai,ai,⟨.slice 71,1,24,some (.slice none 0 0),false⟩,Fy,ai,ai,ai,lB,ai,ai,⟨.slice 3,1,24,some (.slice none 0 0),false⟩,tC,tC,⟨.other,1,0,some (.tuple #[.nilIface,.bool false]),false⟩,ai,⟨.other,1,0,some (.tuple #[.agg #[.int .i64 0,.int .i64 0,.slice none 0 0,.slice none 0 0,.slice none 0 0],.slice none 0 0,.agg #[.int .i64 0,.int .i64 0]]),false⟩,ai,AH,AH,ai,Fz,ai,ai,ai,ai,ai,lB,ai,ai,ai,⟨.struct [(0,9),(1,3)],2,24,some (.agg #[.string ⟨#[]⟩,.int .i64 0]),false⟩,⟨.struct [(0,9),(1,3)],2,24,some (.agg #[.string ⟨#[]⟩,.int .i64 0]),true⟩,FA,FA,⟨.array 7 52,7,112,some (.agg #[.nilIface,.nilIface,.nilIface,.nilIface,.nilIface,.nilIface,.nilIface]),false⟩,ai,⟨.slice 80,1,24,some (.slice none 0 0),false⟩,lB,ai,nJ,nJ,ai,ai,ai,ai,ai,FB,FB,AJ,ai,ai,ai,ai,ai,ai,ai,⟨.slice 22,1,24,some (.slice none 0 0),false⟩,lB,ai,⟨.slice 101,1,24,some (.slice none 0 0),false⟩,nJ,nJ,ai,ai,ai,ai,⟨.slice 96,1,24,some (.slice none 0 0),false⟩,FC,FC,⟨.other,1,0,some (.tuple #[.agg #[.slice none 0 0,.slice none 0 0,.bool false],.bool false]),false⟩,ai,ai,ai,AK,ai,⟨.other,1,0,some (.tuple #[.agg #[.int .i64 0,.int .i64 0,.slice none 0 0,.slice none 0 0,.slice none 0 0],.int .i64 0,.bool false]),false⟩,ai,wT,ai,AJ,ai,wT,ai,⟨.slice 50,1,24,some (.slice none 0 0),false⟩,wT,ai,ai,lB,ai,FD,ai,ai,AN,⟨.other,1,0,some (.tuple #[.int .i64 0,.slice none 0 0,.slice none 0 0,.bool false]),false⟩,ai,ai,ai,ai,AK,ai,ai,⟨.slice 21,1,24,some (.slice none 0 0),false⟩,AJ,ai,ai,ai,⟨.slice 250,1,24,some (.slice none 0 0),false⟩,wT,ai,FE,FE,ai,FF,ai,lB,ai,ai,ai,⟨.slice 327,1,24,some (.slice none 0 0),false⟩,FG,FG,⟨.other,1,0,some (.tuple #[.int .i64 0,.int .i64 0,.slice none 0 0,.agg #[.int .i64 0,.slice none 0 0],.bool false]),false⟩,ai,FH,ai,FF,ai,ai,ai,ai,FI,FI,⟨.slice 281,1,24,some (.slice none 0 0),false⟩,FJ,FJ,⟨.other,1,0,some (.tuple #[.agg #[.int .i64 0,.int .i64 0,.int .i64 0,.slice none 0 0,.slice none 0 0],.bool false]),false⟩,ai,ai,ai,FH,ai,FD,ai,ai,FK,FK,FL,FL,⟨.other,1,0,some (.tuple #[.agg #[.int .i64 0,.bool false,.slice none 0 0,.slice none 0 0,.bool false],.bool false]),false⟩,ai,ai,lB,ai,⟨.other,1,0,some (.tuple #[.int .i64 0,.agg #[.int .i64 0,.int .i64 0]]),false⟩,ai,⟨.slice 206,1,24,some (.slice none 0 0),false⟩,Fz,ai,ai,lB,ai,⟨.pointer 204,1,8,some (.pointer none),false⟩,⟨.map 3 22,1,8,some (.map none),false⟩,FM,FM,nJ,nJ,ai,ai,⟨.slice 316,1,24,some (.slice none 0 0),false⟩,FN,FN,⟨.other,1,0,some (.tuple #[.agg #[.slice none 0 0,.slice none 0 0,.int .i64 0],.bool false]),false⟩,ai,ai,lB,ai,ai,AN,ai,ai,⟨.other,1,0,some (.tuple #[.slice none 0 0,.bool false,.int .i64 0,.bool false]),false⟩,ai,ai,ai,⟨.other,1,0,some (.tuple #[.int .i64 0,.bool false]),false⟩,ai,ai,ai,ai,ai,ai,⟨.slice 233,1,24,some (.slice none 0 0),false⟩,⟨.array 2 3,2,16,some (.agg #[.int .i64 0,.int .i64 0]),false⟩,FO,FO,⟨.slice 235,1,24,some (.slice none 0 0),false⟩,⟨.other,1,0,some (.tuple #[.int .i64 0,.int .i64 0]),false⟩,ai,⟨.other,1,0,some (.tuple #[.int .i64 0,.int .i64 0,.agg #[.int .i64 0,.int .i64 0]]),false⟩,ai,tD,ai,tD,ai,ai,ai,ai,ai,AG,AG,ai,ai,ai,tD,ai,ai,ai,⟨.array 256 5,256,256,some (.agg (List.replicate 256 (.int .u8 0)).toArray),false⟩,FP,FP,⟨.array 16 260,32,32,some (.agg (List.replicate 32 (.int .u8 0)).toArray),false⟩,ai,ai,ai,ai,AK,ai,ai,ai,ai,ai,ai,ai,⟨.array 4 3,4,32,some (.agg #[.int .i64 0,.int .i64 0,.int .i64 0,.int .i64 0]),false⟩,⟨.slice 279,1,24,some (.slice none 0 0),false⟩,lB,ai,FQ,FQ,FR,FR,ai,ai,ai,ai,ai,ai,⟨.int .i16,1,2,some (.int .i16 0),false⟩,⟨.int .u16,1,2,some (.int .u16 0),false⟩,tD,ai,ai,ai,ai,⟨.slice 4,1,24,some (.slice none 0 0),false⟩,ai,ai,ai,ai,ai,⟨.pointer 303,1,8,some (.pointer none),false⟩,FT,FT,ai,ai,ai,tD,ai,ai,ai,⟨.other,1,0,some (.tuple #[.string ⟨#[]⟩,.string ⟨#[]⟩,.bool false]),false⟩,ai,ai,ai,nJ,nJ,ai,ai,ai,ai,⟨.int .u32,1,4,some (.int .u32 0),false⟩,ai,ai,ai,ai,⟨.other,1,0,some (.tuple #[.agg #[.int .i64 0,.int .i64 0],.int .i64 0,.agg #[.int .i64 0,.int .i64 0]]),false⟩,⟨.array 3 5,3,3,some (.agg #[.int .u8 0,.int .u8 0,.int .u8 0]),false⟩,ai,ai,ai,ai,ai,⟨.other,1,0,some (.tuple #[.agg #[.int .u8 0,.slice none 0 0,.int .i64 0],.int .i64 0,.agg #[.int .i64 0,.int .i64 0]]),false⟩,⟨.pointer 336,1,8,some (.pointer none),false⟩,FU,FU,⟨.other,1,0,some (.tuple #[.slice none 0 0,.bool false,.bool false]),false⟩,ai,ai,ai,ai,ai,ai,ai,ai,⟨.other,1,0,some (.tuple #[.agg #[.int .i64 0,.slice none 0 0],.int .i64 0,.agg #[.int .i64 0,.int .i64 0]]),false⟩,ai,FV,FV,⟨.other,1,0,some (.tuple #[.agg (List.replicate 256 (.bool false)).toArray,.bool false]),false⟩,ai,ai,⟨.pointer 349,1,8,some (.pointer none),false⟩,⟨.other,1,0,some (.tuple #[.string ⟨#[]⟩,.bool false]),false⟩,ai,ai,ai,⟨.pointer 211,1,8,some (.pointer none),false⟩,⟨.pointer 316,1,8,some (.pointer none),false⟩,ai,ai,ai,ai,ai,⟨.other,1,0,some (.tuple #[.int .i32 0,.int .i64 0]),false⟩,ai,AH,tC,tC,FW,ai,ai,ai,ai,ai,ai,ai,FX,ai,ai,ai,ai,⟨.array 24 5,24,24,some (.agg (List.replicate 24 (.int .u8 0)).toArray),false⟩,ai,ai,⟨.other,1,0,some (.tuple #[.slice none 0 0,.string ⟨#[]⟩]),false⟩,ai,ai,ai,ai,⟨.other,1,0,some (.tuple #[.int .u32 0,.int .u32 0]),false⟩,ai,FX,ai,⟨.array 4 5,4,4,some (.agg #[.int .u8 0,.int .u8 0,.int .u8 0,.int .u8 0]),false⟩,ai,ai,ai,ai,AL,FW,ai,⟨.pointer 416,1,8,some (.pointer none),false⟩,ai,ai,ai,⟨.array 20 218,20,160,some (.agg (List.replicate 20 (.int .u64 0)).toArray),false⟩,⟨.array 65 5,65,65,some (.agg (List.replicate 65 (.int .u8 0)).toArray),false⟩,ai,ai,ai,⟨.other,1,0,some (.tuple #[.int .u64 0,.nilIface]),false⟩,ai,ai,FY,FY,ai,ai,ai,⟨.pointer 5,1,8,some (.pointer none),false⟩,⟨.pointer 423,1,8,some (.pointer none),false⟩,FZ,FZ,⟨.array 32 5,32,32,some (.agg (List.replicate 32 (.int .u8 0)).toArray),false⟩,⟨.array 64 5,64,64,some (.agg (List.replicate 64 (.int .u8 0)).toArray),false⟩,F0,F0,⟨.array 0 16,0,0,some (.agg #[]),false⟩,F1,F1,wS,wS,ai,AF,AF,F2,F2,⟨.other,1,8,some (.pointer none),false⟩]
theorem ad:aQ Tryz.prog nh:=Wz (es:=[31,71]) ab ab ab
theorem mixed:Tryz.prog.follows .mixedOrders=true:=ab
theorem eV {f:FuncId} {fn:Func} {c:Code} {args:List Value} {w:World} {K:Value→World→Prop} {Z:List PanicEntry→World→Prop} (hf:Tryz.prog.funcs[f]?=some fn) (n:Nat) (live:List Nat)
  (h:dT ⟨Tryz.prog,nh,n,live,none⟩ c (hK 0 args) [] w (A7 ⟨Tryz.prog,nh,n,live,none⟩ fn.results.toList K Z)) (hb:fn.body=some c:=by exact rfl) (hname:(fn.name == "runtime.NumGoroutine")=false:=by kernel_rfl) (hn:fn.ntmps=n:=by exact rfl) (ha:args.length≤n:=by simp):aX Tryz.prog f args.toArray w K Z :=
 Ns ad hf hb hname n hn ha live h
theorem dV {n:Nat} {live:List Nat} {r:Option Nat} (id:Nat) {ops:Array Oper} {env:Env} {ds:List Deferred} {w0 V0 V w:World} {own:List ak} {Q:dU} (xs π:List Nat) (H:Rel w0 V0 own V w)
  (h:∀w1,Rel w0 V0 own V w1→qE ⟨Tryz.prog,nh,n,live,r⟩ ops.toList xs π env w1 (fun au w'=>iT au live fun e'=>Q .normal e' ds w') (fun ch w'=>Q (.panic ch) [] ds w')) (hok:qh nh ops.toList xs π π=true:=by kernel_rfl) :
  aB ⟨Tryz.prog,nh,n,live,r⟩ (.region id ops true) env ds w Q:=Ge ad mixed xs π hok fun w1 hd=>h w1 (H.ext hd.ext)
theorem RD (b:UInt8):bI ((b.toNat:Nat):Int):=by
 have:=b.toNat_lt
 constructor<;>omega
theorem sF {P:Program} {b:Frame} {a:Act} {k:List Item} {cs:List Frame} {w:World} {c:Code}:step P (lone (b.atR a (.code (.scope c)::k)) cs w)=.next (lone (b.atR a (.code c::.inScope c::k)) cs w) :=
 step_lone_go (by simp [stepG,stepG.exec,Frame.atR])
theorem Wi {P:Program} {b:Frame} {a:Act} {k:List Item} {cs:List Frame} {w:World} {c:Code}:step P (lone (b.atR a (.inScope c::k)) cs w)=.next (lone (b.atR a k) cs w) :=
 step_lone_go (by simp [stepG,stepG.exec,Frame.atR])
theorem XX {F:Fence} {n:Nat} {P:Program} {Q:Exit→Act→World→Prop} {a:Act} {w:World} {c:Code} (h:c.wpIn F n P (Exit.noGoto Q) a w):(Code.scope c).wpIn F n P Q a w:=by
 intro b k cs hro hb hr
 have h0:(lone (b.atR a (.code (.scope c)::k)) cs w).fenced P F:=fenced_calm hb hr rfl
 obtain ⟨e,jU,jJ,hq,harr⟩:=h b (.inScope c::k) cs hro hb hr
 cases e with
 | normal=>exact ⟨.normal,jU,jJ,hq,.head h0 sF (StepsIn.trans harr (.one (fenced_calm hb hr rfl) Wi))⟩
 | exit id =>
  have hx:exitTo id (.inScope c::k)=exitTo id k:=by simp [exitTo]
  exact ⟨.exit id,jU,jJ,hq,fun k' hk=>.head h0 sF (harr.1 k' (by rw [hx];exact hk)),
   fun hr' hk=>let ⟨k₁,h1,h2⟩:=harr.2 hr' (by rw [hx];exact hk);⟨k₁,h1,.head h0 sF h2⟩⟩
 | goto l=>exact hq.elim
 | ret=>exact ⟨_,jU,jJ,hq,.of_steps (.one h0 sF) harr⟩
 | panic ch=>exact ⟨_,jU,jJ,hq,.of_steps (.one h0 sF) harr⟩
 | outgrown=>exact ⟨_,jU,jJ,hq,.of_steps (.one h0 sF) harr⟩
theorem DM {C:Cx} (hT:aQ C.P C.T) {c:Code} {env:Env} {ds:List Deferred} {w:World} {Q:dU} (h:dT C c env ds w fun e au ds' w'=>(match e with
  | .goto _=>False
  | e=>Q e au ds' w')):aB C (.scope c) env ds w Q:=by
 refine ⟨fun a hs hn hd=>XX (wpIn_mono ((ma hT h).out a hs hn hd) fun e a' w' ⟨h1,au,h2,h3⟩=>?_)⟩
 cases e with
 | goto l=>exact h3.elim
 | _=>exact ⟨h1,au,h2,h3⟩
section
variable {w0 V0 V w:World} {own:List ak}
theorem Rel.newObj (H:Rel w0 V0 own V w) (o:Obj):Rel w0 V0 (.obj w.heap.size o::own) V (w.alloc o) :=
 H.more ((Below.refl _ _).alloc (Nat.le_refl _) _) (heap_alloc_new w o) fun b hb=>by cases hb;exact Nat.le_refl _
theorem Rel.range {P:Program} {T:List TD} (hT:aQ P T) {t:TypeId} {d:TD} (hd:T[t]?=some d) (hu:d.under=.string) (H:Rel w0 V0 own V w) {s:ByteArray} {k:Value→World→Prop}
  (hk:∀w' b,Rel w0 V0 (.obj b (.stringIter s 0)::own) V w'→k (.pointer (some ⟨b,0,none⟩)) w'):aH P (Instr.range t (.string s)) w k:=by
 have ht:P.underlying t=some .string:=by
  obtain ⟨d0,q1,q2⟩:=(hT t d hd).under
  rw [hu] at q2
  cases d0<;>first|(simp_all [bO];done)|(simp only [bO] at q2;split at q2<;>cases q2)
 exact .of (run_range_string w t s ht) (hk _ _ (H.newObj _))
theorem Rel.setObj {b:Nat} {o o':Obj} (H:Rel w0 V0 (.obj b o::own) V w):Rel w0 V0 (.obj b o'::own) V { w with heap:=w.heap.setIfInBounds b o' }:=by
 have hb:w.heap[b]?=some o:=H.laid (.obj b o) ae
 have hlt:=(Array.getElem?_eq_some_iff.1 hb).1
 exact H.put (i:=0) rfl rfl rfl rfl ae (fun c hc hn=>by
  have:b≠c:=fun e=>hn (by rw [e];rfl)
  simp [Array.getElem?_setIfInBounds_ne this]) (by simp [ak.laid,hlt]) fun c hc=>.inl hc
theorem Rel.next {P:Program} {ty b pos:Nat} {s:ByteArray} (H:Rel w0 V0 (.obj b (.stringIter s pos)::own) V w) {k:Value→World→Prop}
  (h1:pos<s.size→∀w',Rel w0 V0 (.obj b (.stringIter s (pos+(Utf8.decode s pos).2))::own) V w'→k (.tuple #[.bool true,.int .i64 pos,.int .i32 (Utf8.decode s pos).1]) w')
  (h2:¬pos<s.size→k (.tuple #[.bool false]) w):aH P (Instr.next (.pointer (some ⟨b,0,none⟩)) true ty) w k:=by
 have hb:w.heap[b]?=some (.stringIter s pos):=H.laid (.obj b (.stringIter s pos)) ae
 by_cases h:pos<s.size
 ·refine .of ?_ (h1 h _ H.setObj)
  simp [Instr.next,getObj,Go.setObj,Sem.run,hb,h,goInt]
 ·refine .of ?_ (h2 h)
  simp [Instr.next,getObj,Sem.run,hb,h]
end
theorem decode_high (s:ByteArray) (pos:Nat) (h:pos<s.size) (ha:128≤(s[pos]'h).toNat):128≤(Utf8.decode s pos).1:=by
 have e:s.get! (pos+0)=s[pos]'h:=by
  show s.get! pos=_
  simp [ByteArray.get!,getElem!_pos,h]
  rfl
 have P1:¬(s[pos]'h).toNat<128:=aa
 simp only [Utf8.decode,e,P1,if_false]
 split
 ·split
  ·rename_i h1;simpa using h1
  ·decide
 ·split
  ·split
   ·rename_i h1;simp at h1;dsimp only;omega
   ·decide
  ·split
   ·split
    ·rename_i h1;simp at h1;dsimp only;omega
    ·decide
   ·decide
theorem aj.mT {P:Program} {f:FuncId} {fn:Func} {args:Array Value} {w:World} {K:Value→World→Prop} (hf:P.funcs[f]?=some fn) (hb:fn.body.isSome=true) (hn:(fn.name == "runtime.NumGoroutine")=false)
  (h:Calls P f args w fun e w'=>∃v,e=.returned v∧K v w'):aj P f args w K :=
 ⟨.inl ⟨ph hf hb hn,Calls.iw h fun e w' ⟨v,he,hk⟩=>by subst he;exact hk⟩⟩
theorem aj.CS {P:Program} {f:FuncId} {fn:Func} {e:Array Value→Sem Value} {args:Array Value} {w w':World} {v:Value} {K:Value→World→Prop} (hf:P.funcs[f]?=some fn) (hname:(fn.name == "runtime.NumGoroutine")=false)
  (hb:fn.body.isNone=true) (hn:Extern.findNext fn=none) (he:Extern.find fn=some e) (hr:(e args).run P w=.ok v w') (hk:K v w'):aj P f args w K :=
 ⟨.inr ⟨v,w',by rw [run_callFunc_extern hf hname hb hn he,hr];rfl,hk⟩⟩
theorem VP (s:ByteArray) (c:Int) (w:World) :
  Calls Tryz.prog 324 #[.string s,.int .u8 c] w fun e w'=>e=.returned (.int .i64 (Lib.indexByte s.data.toList c.toNat.toUInt8))∧w'=w:=by
 go_enter Tryz.func324,Tryz.ntmps324
 go_wp2
 rw [run_callFunc_extern Tryz.func331 ab ab ab (e:=Extern.BytealgIndexByte.indexByte) ab,Lib.run_indexByteString]
 simp only [Result.andThen]
 rw [Oper.upon_value]
 go_wp2
 go_ret
 exact ⟨rfl,rfl⟩
theorem rP (s:List UInt8) (c:Int) (w:World):aj Tryz.prog 302 [str s,.int .u8 c].toArray w fun v w'=>v=iv (Lib.indexByte s c.toNat.toUInt8)∧w=w':=by
 refine eV Tryz.func302 8 [0,1,4] ?_
 conv=>whnf
 refine aj.use (aj.mT (K:=fun v w'=>v=iv (Lib.indexByte s c.toNat.toUInt8)∧w=w') Tryz.func324 rfl ab (Calls.iw (VP _ _ _) fun e w' ⟨he,hw⟩=>⟨_,he,rfl,hw.symm⟩)) ?_
 rintro v w' ⟨rfl,rfl⟩
 conv=>whnf
 exact ⟨rfl,rfl⟩
theorem indexByte_none {s:List UInt8} {c:UInt8} (h:∀b∈s,b≠c):Lib.indexByte s c = -1:=by
 induction s with
 | nil=>rfl
 | cons b l ih =>
  have h1:=h b ae
  simp only [Lib.indexByte,ih fun x hx=>h x (by simp [hx])]
  simp [h1]
theorem XJ (r:Int) (w:World):aj Tryz.prog 356 [.int .i32 r].toArray w fun v w'=>v=.bool (Utf8.valid r)∧w=w':=by
 rw [validRune_eq]
 refine eV Tryz.func356 17 [0,2,3,10] ?_
 by_cases h1:0≤r∧r<55296
 ·have e:validRune r=true:=by simp [validRune];omega
  rw [e]
  (repeat ((conv=>whnf);first|refine And.intro (by first|omega|exact rfl) ?_|refine dw (fun _=>?_) (fun h=>False.elim aa)|refine dw (fun h=>False.elim aa) (fun _=>?_)));(conv=>whnf)
  try exact rfl
 ·by_cases h2:57343<r∧r≤1114111
  ·have e:validRune r=true:=by simp [validRune];omega
   rw [e]
   by_cases h3:0≤r
   ·(repeat ((conv=>whnf);first|refine And.intro (by first|omega|exact rfl) ?_|refine dw (fun _=>?_) (fun h=>False.elim aa)|refine dw (fun h=>False.elim aa) (fun _=>?_)));(conv=>whnf)
    try exact rfl
   ·omega
  ·have e:validRune r=false:=by simp [validRune];omega
   rw [e]
   by_cases h3:0≤r
   ·by_cases h4:57343<r
    ·(repeat ((conv=>whnf);first|refine And.intro (by first|omega|exact rfl) ?_|refine dw (fun _=>?_) (fun h=>False.elim aa)|refine dw (fun h=>False.elim aa) (fun _=>?_)));(conv=>whnf)
     try exact ⟨by simp;omega,rfl⟩
    ·(repeat ((conv=>whnf);first|refine And.intro (by first|omega|exact rfl) ?_|refine dw (fun _=>?_) (fun h=>False.elim aa)|refine dw (fun h=>False.elim aa) (fun _=>?_)));(conv=>whnf)
     try exact rfl
   ·(repeat ((conv=>whnf);first|refine And.intro (by first|omega|exact rfl) ?_|refine dw (fun _=>?_) (fun h=>False.elim aa)|refine dw (fun h=>False.elim aa) (fun _=>?_)));(conv=>whnf)
    try exact rfl
abbrev marks:List UInt8:=[45,95,46]
theorem RN {V W:World} (hV:Sub V W) (r:Int) (h0:0≤r) (h1:r≤2147483647):aj Tryz.prog 361 [str marks,.int .i32 r].toArray W fun v w'=>(∃i:Int,v=iv i∧(0≤i↔r=45∨r=95∨r=46))∧Rel W V [] V w':=by
 have H:=Rel.start hV
 by_cases h2:r<128
 ·refine eV Tryz.func361 187 [0,1,4,5,6,7,8,9,10,11,12,13,14,15,16,26,33,43,51,64,98,108,124,139,143,156,160,171,175,176,177,181,183] ?_
  refine wk ?_
  refine (rP marks _ _).use ?_
  rintro v w ⟨rfl,rfl⟩
  refine wk ?_
  refine ⟨⟨_,rfl,?_⟩,H⟩
  rw [show (wr IntKind.u8 r).toNat=r.toNat by show (r%256).toNat=r.toNat;omega]
  obtain ⟨n,rfl⟩:∃n:Nat,r=n:=⟨r.toNat,aa⟩
  simp only [Int.toNat_natCast]
  have hn:n<128:=aa
  have key:∀n:Fin 128,(0≤Lib.indexByte marks n.val.toUInt8↔n.val=45∨n.val=95∨n.val=46):=ag
  have:=key ⟨n,hn⟩
  dsimp only at this
  rw [this]
  omega
 by_cases h3:r=65533
 ·subst h3
  refine eV Tryz.func361 187 [0,1,4,5,6,7,8,9,10,11,12,13,14,15,16,26,33,43,51,64,98,108,124,139,143,156,160,171,175,176,177,181,183] ?_
  refine wk ?_
  refine Rel.range ad rfl rfl H ?_
  clear H
  intro w b H
  refine wk ?_
  refine aK ad [0,1,7,8,9,10,11,12,13,14,15,16,26,33,43,51,64,98,108,124,139,143,156,160,171,175,183] (fun _:Nat=>[]) (fun k w'=>k≤3∧Rel W V [.obj b (.stringIter ⟨marks.toArray⟩ k)] V w') (fun k _=>3 - k) 0 ?_
  conv=>whnf
  refine ⟨trivial,⟨aa,H⟩,?_⟩
  clear H
  rintro k w ⟨hk,H⟩
  conv=>whnf
  refine Rel.next H (fun hlt w H=>?_) (fun hlt=>?_)
  ·have dH:k<3:=hlt
   have hd:Utf8.decode ⟨marks.toArray⟩ k=(([45,95,46]:List Nat)[k]'(by simpa using dH),1):=by
    have:k=0∨k=1∨k=2:=aa
    rcases this with rfl|rfl|rfl<;>rfl
   rw [hd] at H ⊢
   have hne:(([45,95,46]:List Nat)[k]'(by simpa using dH))<128:=by
    have:k=0∨k=1∨k=2:=aa
    rcases this with rfl|rfl|rfl<;>simp
   generalize (([45,95,46]:List Nat)[k]'(by simpa using dH))=c at hne
   refine wk ?_
   exact ⟨sB,k+1,trivial,⟨aa,H⟩,aa⟩
  ·refine wk ?_
   exact ⟨⟨_,rfl,aa⟩,H.sx⟩
 refine eV Tryz.func361 187 [0,1,4,5,6,7,8,9,10,11,12,13,14,15,16,26,33,43,51,64,98,108,124,139,143,156,160,171,175,176,177,181,183] ?_
 refine wk ?_
 refine (XJ r _).use ?_
 rintro v w ⟨rfl,rfl⟩
 conv=>whnf
 cases hv:Utf8.valid r with
 | false =>
  conv=>whnf
  exact ⟨⟨_,rfl,aa⟩,H⟩
 | true =>
  obtain ⟨e1,e2,e3⟩:=encode_facts r hv aa
  obtain ⟨es,BJ⟩:∃es:List UInt8,Utf8.encode r=⟨es.toArray⟩:=⟨(Utf8.encode r).data.toList,rfl⟩
  rw [BJ] at e1 e2
  have Yn:2≤es.length:=e1
  have Yo:es.length≤4:=e2
  have OB:∃b,es[es.length - 1]?=some b∧128≤b.toNat:=by
   refine ⟨es[es.length - 1],by simp<;>omega,?_⟩
   rw [BJ] at e3
   exact e3 (show es.length - 1<es.length by omega)
  obtain ⟨lb,HX,Y0⟩:=OB
  conv=>whnf
  refine DM ad ?_
  conv=>whnf
  refine aH.of (run_convert_int_string _ _ _ _ _ ab ab) ?_
  rw [BJ]
  refine wk ?_
  have hsz:(ByteArray.mk marks.toArray).size=3:=rfl
  have YT:(ByteArray.mk es.toArray).size=es.length:=rfl
  refine aK (S:=Unit) ad [0,1,5,6,7,8,13,14,15,16,108,124,139,143,156,160,171,175,176,177,181,183] (fun _=>[(9,.int .i64 ((es.length:Int) - 1)),(10,.int .i64 0)]) (fun _ w'=>Rel W V [] V w') (fun _ _=>0) () ?_
  conv=>whnf
  refine ⟨⟨rfl,rfl,trivial⟩,H,?_⟩
  clear H
  rintro _ w H
  by_cases h5:es.length - 1<3
  ·refine wk ?_
   refine DM ad ?_
   conv=>whnf
   obtain ⟨mb,BZ,Y5⟩:∃mb:UInt8,marks[((es.length:Int) - 1).toNat]?=some mb∧mb.toNat<128:=by
    have:((es.length:Int) - 1).toNat=1∨((es.length:Int) - 1).toNat=2:=aa
    rcases this with h|h<;>rw [h]
    ·exact ⟨95,rfl,ag⟩
    ·exact ⟨46,rfl,ag⟩
   have YZ:es[((es.length:Int) - 1).toNat]?=some lb:=by rw [show ((es.length:Int) - 1).toNat=es.length - 1 by omega];exact HX
   have ur:marks.length=3:=rfl
   (first|refine dV 6 [] [0,1,2,3,4,5,6] H ?_|refine dV 7 [] [0,1,2,3,4,5,6,7,8] H ?_|refine dV 14 [] [0,1,2,3,4,5,6,7,8,9,10] H ?_|refine dV 31 [] [0,1,2,3,4,5,6,7,8,9,10] H ?_);clear H;intro w H
   refine wk ?_
   (first|refine dV 6 [] [0,1,2,3,4,5,6] H ?_|refine dV 7 [] [0,1,2,3,4,5,6,7,8] H ?_|refine dV 14 [] [0,1,2,3,4,5,6,7,8,9,10] H ?_|refine dV 31 [] [0,1,2,3,4,5,6,7,8,9,10] H ?_);clear H;intro w H
   refine wk ?_
   refine (rP _ _ _).use ?_
   rintro v w ⟨rfl,rfl⟩
   rw [indexByte_none]
   rotate_left
   ·intro b hb e
    have gu:=List.mem_of_mem_take (List.mem_of_mem_drop hb)
    have hlt:b.toNat<128:=by
     simp only [marks,List.mem_cons,List.not_mem_nil,or_false] at gu
     rcases gu with rfl|rfl|rfl<;>decide
    have:(lb.toNat).toUInt8=lb:=ae
    rw [Int.toNat_natCast,this] at e
    subst e
    omega
   refine wk ?_
   exact ⟨⟨_,rfl,aa⟩,H⟩
  ·refine wk ?_
   exact ⟨⟨_,rfl,aa⟩,H⟩
def fb (n:Nat):Bool:=decide ((97≤n∧n≤122)∨(48≤n∧n≤57)∨n=45∨n=95∨n=46)
theorem Az {V W:World} (hV:Sub V W) (r:Int) (h0:0≤r) (h1:r≤2147483647):aj Tryz.prog 343 [str marks,.int .i32 r].toArray W fun v w'=>v=.bool (decide (r=45∨r=95∨r=46))∧Rel W V [] V w':=by
 refine eV Tryz.func343 9 [0,1,4] ?_
 conv=>whnf
 refine (RN hV r h0 h1).use ?_
 rintro v w ⟨⟨i,rfl,hi⟩,H⟩
 conv=>whnf
 exact ⟨by simp only [hi],H⟩
theorem Tc {V W:World} (hV:Sub V W) (r:Nat) (h1:r≤2147483647):aj Tryz.prog 342 [.int .i32 r].toArray W fun v w'=>v=.bool (!fb r)∧Rel W V [] V w':=by
 have H:=Rel.start hV
 refine eV Tryz.func342 22 [0,2] ?_
 by_cases g1:97≤r∧r≤122
 ·have e:fb r=true:=by simp [fb];omega
  rw [e]
  refine wk ?_
  exact H
 by_cases g2:48≤r∧r≤57
 ·have e:fb r=true:=by simp [fb];omega
  rw [e]
  by_cases g3:r<97
  ·refine wk ?_
   exact H
  ·omega
 have e:fb r=decide ((r:Int)=45∨(r:Int)=95∨(r:Int)=46):=by simp only [fb];congr 1;simp only [eq_iff_iff];omega
 rw [e]
 by_cases g3:r<97
 ·by_cases g4:r<48
  ·refine wk ?_
   refine (Az hV r aa aa).use ?_
   rintro v w ⟨rfl,H⟩
   conv=>whnf
   exact ⟨rfl,H⟩
  ·refine wk ?_
   refine (Az hV r aa aa).use ?_
   rintro v w ⟨rfl,H⟩
   conv=>whnf
   exact ⟨rfl,H⟩
 ·refine wk ?_
  refine (Az hV r aa aa).use ?_
  rintro v w ⟨rfl,H⟩
  conv=>whnf
  exact ⟨rfl,H⟩
theorem Ow (s:ByteArray) (pos:Nat):(Utf8.decode s pos).1≤2147483647:=by
 have h:∀b:UInt8,b.toNat<256:=fun b=>b.toNat_lt
 have e0:=h (s.get! (pos+0))
 have e1:=h (s.get! (pos+1))
 have e2:=h (s.get! (pos+2))
 have e3:=h (s.get! (pos+3))
 unfold Utf8.decode
 dsimp only
 repeat' split
 all_goals first|(simp only [Utf8.runeError];omega)|(dsimp only;omega)
theorem zZ {g:UInt8→Bool} {s:List UInt8} {k:Nat} (hk:k<s.length):(s.take (k+1)).all g=((s.take k).all g&&g s[k]):=by
 rw [List.take_succ_eq_append_getElem hk,List.all_append]
 simp
theorem RM {V W:World} (hV:Sub V W) (s:List UInt8):aj Tryz.prog 374 [str s,.func (.func 342) #[] #[],.bool true].toArray W fun v w'=>(∃i:Int,v=iv i∧(0≤i↔s.all (fun b=>fb b.toNat)=false))∧Rel W V [] V w':=by
 have H:=Rel.start hV
 have hsz:(ByteArray.mk s.toArray).size=s.length:=rfl
 refine eV Tryz.func374 21 [0,1,2,6,7,8,10,11,12,19] ?_
 refine wk ?_
 refine Rel.range ad rfl rfl H ?_
 clear H
 intro w b H
 refine wk ?_
 refine aK ad [0,1,2,10] (fun _:Nat=>[]) (fun k w'=>k≤s.length∧(s.take k).all (fun b=>fb b.toNat)=true∧Rel W V [.obj b (.stringIter ⟨s.toArray⟩ k)] V w') (fun k _=>s.length - k) 0 ?_
 conv=>whnf
 refine ⟨trivial,⟨aa,ae,H⟩,?_⟩
 clear H
 rintro k w ⟨hk,hall,H⟩
 conv=>whnf
 refine Rel.next H (fun hlt w H=>?_) (fun hlt=>?_)
 ·have dH:k<s.length:=hlt
  have hat:zZ (g:=fun b=>fb b.toNat) dH=zZ (g:=fun b=>fb b.toNat) dH:=rfl
  have hcl:=Ow ⟨s.toArray⟩ k
  have Ik:(ByteArray.mk s.toArray)[k]'hlt=s[k]:=rfl
  refine wk ?_
  refine (Tc H.data _ hcl).use ?_
  rintro v w ⟨rfl,K⟩
  replace H:=H.call K
  by_cases ha:(s[k]).toNat<128
  ·rw [decode_ascii _ k hlt ha] at H ⊢
   dsimp only at H ⊢
   rw [Ik]
   cases hok:fb (s[k]).toNat with
   | true =>
    conv=>whnf
    refine ⟨rfl,sB,k+1,trivial,⟨aa,?_,H⟩,aa⟩
    rw [zZ dH,hall,hok]
    rfl
   | false =>
    refine wk ?_
    refine ⟨⟨_,rfl,?_⟩,H.sx⟩
    refine ⟨fun _=>?_,fun _=>by omega⟩
    rw [←Bool.not_eq_true,List.all_eq_true]
    intro h
    have:=h s[k] (List.getElem_mem dH)
    rw [hok] at this
    cases this
  ·have hh:=decode_high _ k hlt (by rw [Ik];omega)
   have hok:fb (Utf8.decode ⟨s.toArray⟩ k).1=false:=by simp [fb];omega
   rw [hok]
   refine wk ?_
   refine ⟨⟨_,rfl,?_⟩,H.sx⟩
   refine ⟨fun _=>?_,fun _=>by omega⟩
   rw [←Bool.not_eq_true,List.all_eq_true]
   intro h
   have:=h s[k] (List.getElem_mem dH)
   simp [fb] at this
   omega
 ·refine wk ?_
  have e6:k=s.length:=by have:¬k<s.length:=hlt;omega
  rw [e6,List.take_length] at hall
  refine ⟨⟨_,rfl,?_⟩,H.sx⟩
  rw [hall]
  simp
theorem NW {V W:World} (hV:Sub V W) (s:List UInt8):aj Tryz.prog 341 [str s,.func (.func 342) #[] #[]].toArray W fun v w'=>v=.bool (!s.all (fun b=>fb b.toNat))∧Rel W V [] V w':=by
 refine eV Tryz.func341 9 [0,1,4] ?_
 conv=>whnf
 have key:aj Tryz.prog 360 [str s,.func (.func 342) #[] #[]].toArray W fun v w'=>(∃i:Int,v=iv i∧(0≤i↔s.all (fun b=>fb b.toNat)=false))∧Rel W V [] V w':=by
  refine eV Tryz.func360 8 [0,1,4] ?_
  conv=>whnf
  refine (RM hV s).use ?_
  rintro v w ⟨⟨i,rfl,hi⟩,H⟩
  conv=>whnf
  exact ⟨⟨_,rfl,hi⟩,H⟩
 refine key.use ?_
 rintro v w ⟨⟨i,rfl,hi⟩,H⟩
 conv=>whnf
 refine ⟨?_,H⟩
 cases h:s.all (fun b=>fb b.toNat) with
 | true=>simp [h] at hi;simp;omega
 | false=>simp [h] at hi;simp [hi]
def dp (s:List UInt8):Bool:=decide (1≤s.length∧s.length≤32)&&(decide (97≤(s[0]?.getD 0).toNat∧(s[0]?.getD 0).toNat≤122)&&s.all fun b=>fb b.toNat)
theorem I9 {V W:World} (hV:Sub V W) (s:List UInt8):aj Tryz.prog 317 [str s].toArray W fun v w'=>v=.bool (dp s)∧Rel W V [] V w':=by
 have H:=Rel.start hV
 have hsz:(ByteArray.mk s.toArray).size=s.length:=rfl
 refine eV Tryz.func317 23 [0,2,19] ?_
 rcases s with _|⟨c,s⟩
 ·refine wk ?_
  exact H
 have j2:(c::s)[(0:Int).toNat]?=some c:=rfl
 by_cases g1:32<(c::s).length
 ·refine wk ?_
  refine ⟨?_,H⟩
  have:¬(c::s).length≤32:=aa
  simp only [dp,this,and_false,decide_false,Bool.false_and]
 have e1:dp (c::s)=(decide (97≤c.toNat∧c.toNat≤122)&&(c::s).all fun b=>fb b.toNat):=by
  have:1≤(c::s).length∧(c::s).length≤32:=⟨ae,aa⟩
  simp only [dp,this,and_self,decide_true,Bool.true_and]
  rfl
 rw [e1]
 by_cases g2:c.toNat<97
 ·refine wk ?_
  refine ⟨?_,H⟩
  simp [show ¬97≤c.toNat by omega]
 by_cases g3:122<c.toNat
 ·refine wk ?_
  refine ⟨?_,H⟩
  simp [show ¬c.toNat≤122 by omega]
 refine wk ?_
 refine (NW hV (c::s)).use ?_
 rintro v w ⟨rfl,H⟩
 conv=>whnf
 refine ⟨?_,H⟩
 simp [show 97≤c.toNat by omega,show c.toNat≤122 by omega]
structure aw {α:Type} (f:α→List Value) (V:World) (s:Sl) (l:List α):Prop where
 len:s.len=l.length
 cap:s.len≤s.cap
 cells:Cells V s.a (l.flatMap f)
section
variable {α:Type} {f:α→List Value} {n:Nat} {V V':World} {s:Sl} {l:List α}
theorem aw.up (h:aw f V s l) (k:Sub V V'):aw f V' s l:=⟨h.len,h.cap,h.cells.sG k⟩
theorem aw.nil (f:α→List Value) (V:World):aw f V ⟨none,0,0⟩ []:=⟨rfl,Nat.le_refl _,⟨fun h=>absurd rfl h,fun j v hj=>by simp at hj⟩⟩
theorem jZ (hf:∀x,(f x).length=n):∀l:List α,(l.flatMap f).length=l.length*n
 | []=>by simp
 | x::l=>by simp only [List.flatMap_cons,List.length_append,hf,jZ hf l,List.length_cons,Nat.succ_mul];omega
theorem GR (hf:∀x,(f x).length=n) (b:Nat):(l.flatMap f).take (b*n)=(l.take b).flatMap f:=by
 induction b generalizing l with
 | zero=>simp
 | succ b ih =>
  cases l with
  | nil=>simp
  | cons x l =>
   simp only [List.flatMap_cons,List.take_succ_cons]
   rw [List.take_append,hf,List.take_of_length_le (by rw [hf,Nat.succ_mul];omega),show (b+1)*n - n=b*n by rw [Nat.succ_mul];omega,ih]
theorem GO (hf:∀x,(f x).length=n) (b:Nat):(l.flatMap f).drop (b*n)=(l.drop b).flatMap f:=by
 induction b generalizing l with
 | zero=>simp
 | succ b ih =>
  cases l with
  | nil=>simp
  | cons x l =>
   simp only [List.flatMap_cons,List.drop_succ_cons]
   rw [List.drop_append,hf,List.drop_of_length_le (by rw [hf,Nat.succ_mul];omega),show (b+1)*n - n=b*n by rw [Nat.succ_mul];omega,ih]
   rfl
theorem Pg (hf:∀x,(f x).length=n) {i j:Nat} (hi:i<l.length) (hj:j<n):(l.flatMap f)[i*n+j]?=(f l[i])[j]?:=by
 rw [←List.getElem?_drop,GO hf,List.drop_eq_getElem_cons hi,List.flatMap_cons,List.getElem?_append_left (by rw [hf];exact hj)]
theorem aw.get (h:aw f V s l) (hf:∀x,(f x).length=n) (hn:0<n) {i:Nat} (hi:i<l.length):Plain s.a∧∀j v,(f l[i])[j]?=some v→V.cell? ⟨aN s.a,aI s.a+i*n+j,none⟩=some v:=by
 refine ⟨h.cells.1 fun e=>?_,fun j v hj=>?_⟩
 ·have:=congrArg List.length e
  rw [jZ hf] at this
  have:0<l.length*n:=Nat.mul_pos aa hn
  simp_all
 ·have QO:j<n:=by
   have:=(List.getElem?_eq_some_iff.1 hj).1
   rwa [hf] at this
  rw [Nat.add_assoc]
  exact h.cells.2 _ v (by rw [Pg hf hi QO];exact hj)
theorem aw.sub (h:aw f V s l) (hf:∀x,(f x).length=n) {a b:Nat} (hab:a≤b) (hb:b≤l.length):aw f V ⟨aD s.a a s.cap n,b - a,s.cap - a⟩ ((l.take b).drop a):=by
 have h1:=h.len
 have h2:=h.cap
 refine ⟨by simp;omega,by dsimp only;omega,?_⟩
 have:=h.cells.sub (i:=a) (b:=b) (m:=s.cap) n aa hab
 rw [GR hf,GO hf] at this
 exact this
end
theorem aw.nL {α:Type} {f:α→List Value} {V:World} {s:Sl} {l:List α} (h:aw f V s l) {g:α→Value} (hf:∀x,f x=[g x]) {i:Nat} (hi:i<l.length):Plain s.a∧V.cell? ⟨aN s.a,aI s.a+i,none⟩=some (g l[i]):=by
 obtain ⟨h1,h2⟩:=h.get (n:=1) (fun x=>by rw [hf];rfl) aa hi
 refine ⟨h1,?_⟩
 have:=h2 0 (g l[i]) (by rw [hf];rfl)
 simpa using this
abbrev oK (l:List UInt8):List Value:=[str l]
abbrev we:=aw oK
structure Mt where
 name:List UInt8
 ver:Int
 deriving DecidableEq,Inhabited
abbrev zO:=Nat→UInt8
structure Mh where
 name:List UInt8
 ver:Int
 kind:Int
 day:Int
 size:Int
 sum:zO
 sources:List Mt
 groups:List (List UInt8)
 Yp:Int
 need:Int
 fw:Int
 csize:Int
 Yl:zO
 pieces:List zO
instance:Inhabited Mh:=⟨⟨[],0,0,0,0,fun _=>0,[],[],0,0,0,0,fun _=>0,[]⟩⟩
theorem aw.Oc {α:Type} {f:α→List Value} {n:Nat} {V:World} {s:Sl} {l:List α} (h:aw f V s l) (hf:∀x,(f x).length=n) {b:Nat} (hb:b≤l.length):aw f V ⟨aD s.a 0 s.cap n,b - 0,s.cap - 0⟩ (l.take b):=by
 have:=h.sub hf (Nat.zero_le b) hb
 simpa using this
section
variable {w0 V0 V w:World} {own:List ak}
theorem ak.Jl {r s:ak} (h:ak.off r s):ak.off s r:=fun b hb hc=>h b hc hb
theorem Rel.perm (H:Rel w0 V0 own V w) {own':List ak} (h:own.Perm own'):Rel w0 V0 own' V w :=
 ⟨H.base,H.sub,H.old,fun r hr=>H.laid r (h.mem_iff.2 hr),fun r hr=>H.new r (h.mem_iff.2 hr),fun r hr=>H.hid r (h.mem_iff.2 hr),(h.pairwise_iff ak.Jl).1 H.apart,H.data⟩
theorem Rel.aJ {α:Type} {f:α→List Value} {s:Sl} {e n:Nat} {l:List α} (H:Rel w0 V0 (.row s e n (l.flatMap f)::own) V w) (hf:∀x,(f x).length=n) (hn:0<n):∃V',Sub V V'∧Rel w0 V0 own V' w∧aw f V' s l:=by
 obtain ⟨V',h1,h2,h3,h4,h5⟩:=H.Pr
 refine ⟨V',h1,h2,?_,h4,h3⟩
 rw [jZ hf] at h5
 exact (Nat.eq_of_mul_eq_mul_right hn h5).symm
theorem Rel.dz {α:Type} {f:α→List Value} {s:Sl} {e n:Nat} {l:List α} {i:Nat} (H:Rel w0 V0 own V w) (hi:own[i]?=some (.row s e n (l.flatMap f))) (hf:∀x,(f x).length=n) (hn:0<n):s.len=l.length:=by
 have:=(H.rowAt hi).len
 rw [jZ hf] at this
 exact (Nat.eq_of_mul_eq_mul_right hn this).symm
theorem Rel.mm {P:Program} {T:List TD} (hT:aQ P T) {t ty e:TypeId} {d de:TD} (hd:T[t]?=some d) (hu:d.under=.slice e) (hde:T[e]?=some de) {z:Value} (hz:de.zero=some z) (hzs:z.cells.size=de.size) (hsz:0<de.size)
  {α:Type} {f:α→List Value} {l:List α} {x:α} (hf:∀y,(f y).length=de.size) (h1:∀u∈f x,u.oneCell'=true) {s:Sl} {b:Nat} {t':TypeId} (H:Rel w0 V0 (.al b (f x) t'::own) V w) {i:Nat} (hi:own[i]?=some (.row s e de.size (l.flatMap f)))
  (hb:(l.length+1)*de.bytes≤140737488355328) (hm:l.length+1≤4611686018427387904)
  {k:Value→World→Prop} (hk:∀s' w',Rel w0 V0 (own.set i (.row s' e de.size ((l++[x]).flatMap f))) V w'→k s'.v w'):aH P (Builtin.append_ #[t,t] ty #[s.v,.slice (some ⟨b,0,none⟩) 1 1]) w k:=by
 have hx:Cells w (some ⟨b,0,none⟩) (f x):=(H.qW).cells
 have hl:=H.pd.dz hi hf hsz
 refine Rel.tg (x:=⟨some ⟨b,0,none⟩,1,1⟩) hT hd hu hde hz hzs hsz H (i:=i+1) (by simpa using hi) hx (by rw [hf];simp) h1 (by rw [hl];exact hb) (by rw [hl];exact hm) ?_
 intro s' w' H' _
 refine hk s' w' ?_
 rw [List.flatMap_append]
 simp only [List.flatMap_cons,List.flatMap_nil,List.append_nil]
 exact Rel.pd (by simpa using H')
theorem Rel.dj {P:Program} {T:List TD} (hT:aQ P T) {t ty e:TypeId} {d de:TD} (hd:T[t]?=some d) (hu:d.under=.slice e) (hde:T[e]?=some de) {z:Value} (hz:de.zero=some z) (hzs:z.cells.size=de.size) (hsz:0<de.size)
  {α:Type} {f:α→List Value} {l:List α} {x:α} (hf:∀y,(f y).length=de.size) (h1:∀u∈f x,u.oneCell'=true) {s:Sl} {b:Nat} {t':TypeId} (H:Rel w0 V0 (.al b (f x) t'::.row s e de.size (l.flatMap f)::own) V w)
  (hb:(l.length+1)*de.bytes≤140737488355328) (hm:l.length+1≤4611686018427387904)
  {k:Value→World→Prop} (hk:∀s' w',Rel w0 V0 (.row s' e de.size ((l++[x]).flatMap f)::own) V w'→k s'.v w'):aH P (Builtin.append_ #[t,t] ty #[s.v,.slice (some ⟨b,0,none⟩) 1 1]) w k :=
 Rel.mm hT hd hu hde hz hzs hsz hf h1 H (i:=0) rfl hb hm hk
theorem Rel.cy {r0:ak} {P:Program} {T:List TD} (hT:aQ P T) {t ty e:TypeId} {d de:TD} (hd:T[t]?=some d) (hu:d.under=.slice e) (hde:T[e]?=some de) {z:Value} (hz:de.zero=some z) (hzs:z.cells.size=de.size) (hsz:0<de.size)
  {α:Type} {f:α→List Value} {l:List α} {x:α} (hf:∀y,(f y).length=de.size) (h1:∀u∈f x,u.oneCell'=true) {s:Sl} {b:Nat} {t':TypeId} (H:Rel w0 V0 (.al b (f x) t'::r0::.row s e de.size (l.flatMap f)::own) V w)
  (hb:(l.length+1)*de.bytes≤140737488355328) (hm:l.length+1≤4611686018427387904)
  {k:Value→World→Prop} (hk:∀s' w',Rel w0 V0 (r0::.row s' e de.size ((l++[x]).flatMap f)::own) V w'→k s'.v w'):aH P (Builtin.append_ #[t,t] ty #[s.v,.slice (some ⟨b,0,none⟩) 1 1]) w k :=
 Rel.mm hT hd hu hde hz hzs hsz hf h1 H (i:=1) rfl hb hm hk
theorem Rel.fX {r0:ak} {r:ak} (H:Rel w0 V0 (r0::r::own) V w):Rel w0 V0 (r::r0::own) V w:=H.perm (List.perm_middle (l₁:=[r0]))
theorem Rel.tf {r0 r1:ak} {P:Program} {T:List TD} (hT:aQ P T) {t ty e:TypeId} {d de:TD} (hd:T[t]?=some d) (hu:d.under=.slice e) (hde:T[e]?=some de) {z:Value} (hz:de.zero=some z) (hzs:z.cells.size=de.size) (hsz:0<de.size)
  {α:Type} {f:α→List Value} {l:List α} {x:α} (hf:∀y,(f y).length=de.size) (h1:∀u∈f x,u.oneCell'=true) {s:Sl} {b:Nat} {t':TypeId} (H:Rel w0 V0 (.al b (f x) t'::r0::r1::.row s e de.size (l.flatMap f)::own) V w)
  (hb:(l.length+1)*de.bytes≤140737488355328) (hm:l.length+1≤4611686018427387904)
  {k:Value→World→Prop} (hk:∀s' w',Rel w0 V0 (r0::r1::.row s' e de.size ((l++[x]).flatMap f)::own) V w'→k s'.v w'):aH P (Builtin.append_ #[t,t] ty #[s.v,.slice (some ⟨b,0,none⟩) 1 1]) w k :=
 Rel.mm hT hd hu hde hz hzs hsz hf h1 H (i:=2) rfl hb hm hk
theorem Rel.MO {r0 r1 r2:ak} {P:Program} {T:List TD} (hT:aQ P T) {t ty e:TypeId} {d de:TD} (hd:T[t]?=some d) (hu:d.under=.slice e) (hde:T[e]?=some de) {z:Value} (hz:de.zero=some z) (hzs:z.cells.size=de.size) (hsz:0<de.size)
  {α:Type} {f:α→List Value} {l:List α} {x:α} (hf:∀y,(f y).length=de.size) (h1:∀u∈f x,u.oneCell'=true) {s:Sl} {b:Nat} {t':TypeId} (H:Rel w0 V0 (.al b (f x) t'::r0::r1::r2::.row s e de.size (l.flatMap f)::own) V w)
  (hb:(l.length+1)*de.bytes≤140737488355328) (hm:l.length+1≤4611686018427387904)
  {k:Value→World→Prop} (hk:∀s' w',Rel w0 V0 (r0::r1::r2::.row s' e de.size ((l++[x]).flatMap f)::own) V w'→k s'.v w'):aH P (Builtin.append_ #[t,t] ty #[s.v,.slice (some ⟨b,0,none⟩) 1 1]) w k :=
 Rel.mm hT hd hu hde hz hzs hsz hf h1 H (i:=3) rfl hb hm hk
end
end Go.Proofs.YtmoiobegbpkkbaaGreatDoor
