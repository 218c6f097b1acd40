import Derived.Test.YtmoiobegbpkkbaaGreatDoorKAA
import Derived.Laws.Concat
import Derived.Laws.IdiomStrings
import Derived.RangeFuncLeaves
import Derived.RangeFuncRecord
namespace Go.Proofs.YtmoiobegbpkkbaaGreatDoor
open Go Go.RowKit
set_option maxRecDepth 100000
set_option maxHeartbeats 8000000
def rh (neg:Bool) (t:jS) (a b:Value) (c:Value→Prop):Prop :=
 match t,a,b with
 | .bool,.bool x,.bool y=>c (.bool (if neg then x != y else x == y))
 | .pointer _,.pointer none,.pointer y=>c (.bool (if neg then y.isSome else y.isNone))
 | .pointer _,.pointer (some _),.pointer none=>c (.bool neg)
 | .slice _,.slice none _ _,.slice y _ _=>c (.bool (if neg then y.isSome else y.isNone))
 | .slice _,.slice x _ _,.slice none _ _=>c (.bool (if neg then x.isSome else x.isNone))
 | .map _ _,.map x,.map none=>c (.bool (if neg then x.isSome else x.isNone))
 | .iface,.iface _ _,.nilIface=>c (.bool neg)
 | .func,.func _ _ _,.nilFunc=>c (.bool neg)
 | .func,.nilFunc,.nilFunc=>c (.bool (!neg))
 | _,_,_=>False
theorem k7 {P:Program} {neg:Bool} {t:TypeId} {x y:Operand} {a b:Value} {w:World} {r:Bool}
  (hg:eqGuard (if neg then .neq else .eql) t x y a b=pure ())
  (hb:binOp (if neg then .neq else .eql) t a b=if neg then (do pure (.bool (!(←Op.equal t a b)))) else (do pure (.bool (←Op.equal t a b))))
  (he:∀m,(Op.equalIn (m+1) t a b).run P w=.ok r w) :
  (do eqGuard (if neg then .neq else .eql) t x y a b;binOp (if neg then .neq else .eql) t a b:Sem Value).run P w=.ok (.bool (if neg then !r else r)) w:=by
 have Qs:(Op.equal t a b).run P w=.ok r w:=he 9999
 rw [hg,hb]
 cases neg<;>simp [Qs]
theorem Gr {P:Program} {neg:Bool} {t:TypeId} {d:TD} (hd:bH P t d) {a b:Value} {w:World} {c:Value→World→Prop} {x y:Operand} (h:rh neg d.under a b fun v=>c v w) :
  aH P (do eqGuard (if neg then .neq else .eql) t x y a b;binOp (if neg then .neq else .eql) t a b) w c:=by
 unfold rh at h
 split at h
 ·rename_i p q hu;have bg:=hd.bool hu w
  have key:=k7 (P:=P) (neg:=neg) (t:=t) (x:=x) (y:=y) (a:=.bool p) (b:=.bool q) (w:=w) (r:=p == q) (by cases neg<;>rfl) (by cases neg<;>rfl) (fun m=>by simp only [Op.equalIn,Sem.run_bind,bg,Result.andThen_ok,Sem.run_pure])
  refine .of key ?_
  cases neg<;>exact h
 ·rename_i y' hu;have bg:=hd.pointer hu w
  have key:=k7 (P:=P) (neg:=neg) (t:=t) (x:=x) (y:=y) (a:=.pointer none) (b:=.pointer y') (w:=w) (r:=y'.isNone) (by cases neg<;>rfl) (by cases neg<;>rfl) (fun m=>by simp only [Op.equalIn,Sem.run_bind,bg,Result.andThen_ok,Sem.run_pure])
  refine .of key ?_
  cases neg<;>cases y'<;>exact h
 ·rename_i p hu;have bg:=hd.pointer hu w
  have key:=k7 (P:=P) (neg:=neg) (t:=t) (x:=x) (y:=y) (a:=.pointer (some p)) (b:=.pointer none) (w:=w) (r:=false) (by cases neg<;>rfl) (by cases neg<;>rfl) (fun m=>by simp only [Op.equalIn,Sem.run_bind,bg,Result.andThen_ok,Sem.run_pure])
  refine .of key ?_
  cases neg<;>exact h
 ·rename_i n1 n2 y' n3 n4 hu;have bg:=hd.slice hu w
  have key:=k7 (P:=P) (neg:=neg) (t:=t) (x:=x) (y:=y) (a:=.slice none n1 n2) (b:=.slice y' n3 n4) (w:=w) (r:=y'.isNone) (by cases neg<;>rfl) (by cases neg<;>rfl) (fun m=>by simp only [Op.equalIn,Sem.run_bind,bg,Result.andThen_ok,Sem.run_pure])
  refine .of key ?_
  cases neg<;>cases y'<;>exact h
 ·rename_i x' n1 n2 n3 n4 hne hu;have bg:=hd.slice hu w
  cases x' with
  | none=>exact (hne rfl).elim
  | some p =>
   have key:=k7 (P:=P) (neg:=neg) (t:=t) (x:=x) (y:=y) (a:=.slice (some p) n1 n2) (b:=.slice none n3 n4) (w:=w) (r:=false) (by cases neg<;>rfl) (by cases neg<;>rfl) (fun m=>by simp only [Op.equalIn,Sem.run_bind,bg,Result.andThen_ok,Sem.run_pure])
   refine .of key ?_
   cases neg<;>exact h
 ·rename_i x' hu;have bg:=hd.map hu w
  have key:=k7 (P:=P) (neg:=neg) (t:=t) (x:=x) (y:=y) (a:=.map x') (b:=.map none) (w:=w) (r:=x'.isNone) (by cases neg<;>rfl) (by cases neg<;>rfl) (fun m=>by cases x'<;>simp only [Op.equalIn,Sem.run_bind,bg,Result.andThen_ok,Sem.run_pure]<;>rfl)
  refine .of key ?_
  cases neg<;>cases x'<;>exact h
 ·rename_i t1 v1 hu;obtain ⟨ms,bg⟩:=hd.iface hu w
  have key:=k7 (P:=P) (neg:=neg) (t:=t) (x:=x) (y:=y) (a:=.iface t1 v1) (b:=.nilIface) (w:=w) (r:=false) (by cases neg<;>rfl) (by cases neg<;>rfl) (fun m=>by simp only [Op.equalIn,Sem.run_bind,bg,Result.andThen_ok,Sem.run_pure])
  refine .of key ?_
  cases neg<;>exact h
 ·rename_i f1 f2 f3 hu;obtain ⟨q1,q2,q3,bg⟩:=hd.func hu w
  have key:=k7 (P:=P) (neg:=neg) (t:=t) (x:=x) (y:=y) (a:=.func f1 f2 f3) (b:=.nilFunc) (w:=w) (r:=false) (by cases neg<;>rfl) (by cases neg<;>rfl) (fun m=>by simp only [Op.equalIn,Sem.run_bind,bg,Result.andThen_ok,Sem.run_pure])
  refine .of key ?_
  cases neg<;>exact h
 ·rename_i hu;obtain ⟨q1,q2,q3,bg⟩:=hd.func hu w
  have key:=k7 (P:=P) (neg:=neg) (t:=t) (x:=x) (y:=y) (a:=.nilFunc) (b:=.nilFunc) (w:=w) (r:=true) (by cases neg<;>rfl) (by cases neg<;>rfl) (fun m=>by simp only [Op.equalIn,Sem.run_bind,bg,Result.andThen_ok,Sem.run_pure])
  refine .of key ?_
  cases neg<;>exact h
 ·exact h.elim
abbrev str (l:List UInt8):Value:=.string ⟨l.toArray⟩
def zq (op:BinOp) (x y:List UInt8) (c:Value→Prop):Prop :=
 match op with
 | .add=>((x.length:Int)+y.length≤9223372036854775807)∧c (str (x++y))
 | .eql=>c (.bool (decide (x=y)))
 | .neq=>c (.bool (!decide (x=y)))
 | .lss=>c (.bool (Op.bytesLess x y))
 | .leq=>c (.bool (Op.bytesLess x y||decide (x=y)))
 | .gtr=>c (.bool (!(Op.bytesLess x y||decide (x=y))))
 | .geq=>c (.bool (!Op.bytesLess x y))
 | _=>False
theorem ByteArray.KA (bs:List UInt8):(ByteArray.mk bs.toArray).size=bs.length:=rfl
theorem Wl {P:Program} {op:BinOp} {t:TypeId} {x y:List UInt8} {w:World} {c:Value→World→Prop} (h:zq op x y fun v=>c v w) :
  aH P (binOp op t (str x) (str y)) w c:=by
 have he:(x == y)=decide (x=y):=by
  by_cases e:x=y<;>simp [e]
 cases op
 case add =>
  obtain ⟨h1,h⟩:=h
  refine .of (v:=str (x++y)) (w':=w) ?_ h
  have h2:¬((9223372036854775807:Int)<(x.length:Int)+y.length):=aa
  have h3:¬(((ByteArray.mk x.toArray).size+(ByteArray.mk y.toArray).size:Nat):Int)>IntKind.i64.max:=by
   rw [ByteArray.KA,ByteArray.KA]
   have:IntKind.i64.max=9223372036854775807:=ag
   rw [this];omega
  simp only [binOp,Op.stringOp]
  rw [if_neg h3,ByteArray.mk_append_mk]
  rfl
 case eql=>exact .of (v:=.bool (decide (x=y))) (w':=w) (by simp [binOp,Op.stringOp,he]) h
 case neq=>exact .of (v:=.bool (!decide (x=y))) (w':=w) (by simp [binOp,Op.stringOp,he]) h
 case lss=>exact .of (v:=.bool (Op.bytesLess x y)) (w':=w) (by simp [binOp,Op.stringOp]) h
 case leq=>exact .of (v:=.bool (Op.bytesLess x y||decide (x=y))) (w':=w) (by simp [binOp,Op.stringOp,he]) h
 case gtr=>exact .of (v:=.bool (!(Op.bytesLess x y||decide (x=y)))) (w':=w) (by simp [binOp,Op.stringOp,he]) h
 case geq=>exact .of (v:=.bool (!Op.bytesLess x y)) (w':=w) (by simp [binOp,Op.stringOp]) h
 all_goals exact h.elim
def ti (C:Cx) (op:BinOp) (t:TypeId) (a b:Value) (w:World) (k:Value→World→Prop):Prop :=
 match a,b with
 | .int ka x,.int kb y =>
  (match op with
   | .shl=>(0≤y∧y≤64)∧jY ka (x*2 ^ (min y.toNat ka.bits)) fun v=>k v w
   | .shr=>(0≤y∧y≤64)∧k (.int ka (x / 2 ^ (min y.toNat ka.bits))) w
   | op=>(match ka,kb with
    | .i64,.i64=>kT op .i64 x y fun v=>k v w
    | .u8,.u8=>kT op .u8 x y fun v=>k v w
    | .i32,.i32=>kT op .i32 x y fun v=>k v w
    | .u64,.u64=>kT op .u64 x y fun v=>k v w
    | .u16,.u16=>kT op .u16 x y fun v=>k v w
    | .u32,.u32=>kT op .u32 x y fun v=>k v w
    | .i16,.i16=>kT op .i16 x y fun v=>k v w
    | .i8,.i8=>kT op .i8 x y fun v=>k v w
    | _,_=>False))
 | .string ⟨⟨x⟩⟩,.string ⟨⟨y⟩⟩=>zq op x y fun v=>k v w
 | .agg ⟨a⟩,.agg ⟨b⟩=>bV C.T t fun d=>(match d.eq,d.under,op with
  | true,.struct fs,.eql=>pj C fs a b fun p i=>k (.bool (@decide p i)) w
  | true,.struct fs,.neq=>pj C fs a b fun p i=>k (.bool (@decide (¬p) (@instDecidableNot p i))) w
  | _,.array _ _,op=>aH C.P (do eqGuard op t (.tmp 0) (.tmp 0) (.agg ⟨a⟩) (.agg ⟨b⟩);binOp op t (.agg ⟨a⟩) (.agg ⟨b⟩)) w k
  | _,_,_=>False)
 | a,b=>(match op with
  | .eql=>bV C.T t fun d=>rh false d.under a b fun v=>k v w
  | .neq=>bV C.T t fun d=>rh true d.under a b fun v=>k v w
  | _=>False)
theorem OZ {P:Program} {op:BinOp} {t:TypeId} {x y:Operand} {ka kb:IntKind} {a b:Int} {w:World}:(eqGuard op t x y (.int ka a) (.int kb b)).run P w=.ok () w:=by
 unfold eqGuard
 cases op<;>simp
theorem O0 {P:Program} {op:BinOp} {t:TypeId} {x y:Operand} {a b:ByteArray} {w:World}:(eqGuard op t x y (.string a) (.string b)).run P w=.ok () w:=by
 unfold eqGuard
 cases op<;>simp
theorem aH.guard {P:Program} {g:Sem Unit} {s:Sem Value} {w:World} {k:Value→World→Prop} (hg:g.run P w=.ok () w) (h:aH P s w k):aH P (do g;s) w k:=by
 obtain ⟨v,w',hr,hk⟩:=h.ex
 exact ⟨v,w',by simp [hg,hr],hk⟩
theorem M5 {C:Cx} (hT:aQ C.P C.T) {op:BinOp} {t:TypeId} {x y:Operand} {a b:Value} {w:World} {k:Value→World→Prop} (h:ti C op t a b w k) :
  aH C.P (do eqGuard op t x y a b;binOp op t a b) w k:=by
 unfold ti at h
 split at h
 ·refine .guard OZ ?_
  rename_i ka x kb y
  split at h
  ·obtain ⟨h1,h⟩:=h
   exact .of (v:=.int ka (ka.wrap (x*2 ^ (min y.toNat ka.bits)))) (w':=w) (by simp [binOp,Op.shift,show ¬y<0 by omega]) (mu (k:=ka) (c:=fun v=>k v w) h)
  ·obtain ⟨h1,h⟩:=h
   refine .of (v:=.int ka (x.fdiv (2 ^ (min y.toNat ka.bits)))) (w':=w) (by simp [binOp,Op.shift,show ¬y<0 by omega]) ?_
   rw [Int.fdiv_eq_ediv_of_nonneg _ (Int.pow_nonneg ag)]
   exact h
  ·split at h<;>first|exact RT h|exact h.elim
 ·exact .guard O0 (Wl h)
 ·replace h:=di hT h;obtain ⟨d,hd,h⟩:=h
  split at h
  ·rename_i fs he hu
   obtain ⟨p,i,hk,hr⟩:=Gn hT hd he hu h w
   exact .of (hr x y).1 hk
  ·rename_i fs he hu
   obtain ⟨p,i,hk,hr⟩:=Gn hT hd he hu h w
   refine .of (hr x y).2 ?_
   have e:(!@decide p i)=@decide (¬p) (@instDecidableNot p i):=by by_cases hp:p<;>simp [hp]
   rw [e];exact hk
  ·exact h
  ·exact h.elim
 ·split at h
  ·replace h:=di hT h;obtain ⟨d,hd,h⟩:=h
   exact Gr (neg:=false) hd h
  ·replace h:=di hT h;obtain ⟨d,hd,h⟩:=h
   exact Gr (neg:=true) hd h
  ·exact h.elim
def sM (op:UnOp) (x:Value) (c:Value→Prop):Prop :=
 match op,x with
 | .not,.bool b=>c (.bool (!b))
 | .neg,.int .i64 n=>(bI (0 - n)∧c (.int .i64 (0 - n)))∨c (.int .i64 (IntKind.i64.wrap (0 - n)))
 | .neg,.int kd n=>jY kd (0 - n) c
 | .xor,.int kd n=>c (.int kd (aV .xor kd (if kd.signed then -1 else kd.max) n))
 | _,_=>False
theorem Xr {P:Program} {op:UnOp} {x:Value} {w:World} {k:Value→World→Prop} (h:sM op x fun v=>k v w):aH P (Op.unary op x) w k:=by
 unfold sM at h
 split at h
 ·rename_i b;exact .of (v:=.bool (!b)) (w':=w) (by simp [Op.unary]) h
 ·rename_i n;exact .of (v:=.int .i64 (IntKind.i64.wrap (0 - n))) (w':=w) (by simp [Op.unary,Op.intArith]) (by
   rcases h with h|h
   ·rw [wrap_i64 h.1];exact h.2
   ·exact h)
 ·rename_i kd n _;exact .of (v:=.int kd (kd.wrap (0 - n))) (w':=w) (by simp [Op.unary,Op.intArith]) (mu (k:=kd) (c:=fun v=>k v w) h)
 ·rename_i kd n;exact .of (v:=.int kd (aV .xor kd (if kd.signed then -1 else kd.max) n)) (w':=w) (by simp [Op.unary,Op.intBits,aV]) h
 ·exact h.elim
def uM (u:jS):Bool:=match u with|.int .u8=>true|_=>false
def wP (C:Cx) (s d:TypeId) (x:Value) (w:World) (k:Value→World→Prop):Prop :=
 bV C.T s fun ds=>bV C.T d fun dd =>
  match ds.under,dd.under,x with
  | .int .u64,.int .i64,.int _ n=>(bI n∧k (.int .i64 n) w)∨k (.int .i64 (IntKind.i64.wrap n)) w
  | .int _,.int kd,.int _ n=>jY kd n fun v=>k v w
  | .string,.string,.string b=>k (.string b) w
  | .slice e,.string,.slice a len cap=>bV C.T e fun de=>(match uM de.under with
   | true=>∃l:List UInt8,len=l.length∧Cells w a (l.map bv)∧k (str l) w
   | false=>aH C.P (convert s d (.slice a len cap)) w k)
  | .string,.slice _,x=>aH C.P (convert s d x) w k
  | .slice _,.slice _,x=>aH C.P (convert s d x) w k
  | .int _,.string,x=>aH C.P (convert s d x) w k
  | _,_,_=>False
theorem N9 {C:Cx} (hT:aQ C.P C.T) {s d:TypeId} {x:Value} {w:World} {k:Value→World→Prop} (h:wP C s d x w k):aH C.P (convert s d x) w k:=by
 replace h:=di hT h;obtain ⟨ds,fI,h⟩:=h
 replace h:=di hT h;obtain ⟨dd,nU,h⟩:=h
 split at h
 ·rename_i q n ir hu
  have h1:=fI.int ir w
  have h2:=nU.int hu w
  exact .of (v:=.int .i64 (IntKind.i64.wrap n)) (w':=w) (by simp [convert,h1,h2,Conv.intToInt]) (by
   rcases h with h|h
   ·rw [wrap_i64 h.1];exact h.2
   ·exact h)
 ·rename_i ks kd q n _ ir hu
  have h1:=fI.int ir w
  have h2:=nU.int hu w
  exact .of (v:=.int kd (kd.wrap n)) (w':=w) (by simp [convert,h1,h2,Conv.intToInt]) (mu (k:=kd) (c:=fun v=>k v w) h)
 ·rename_i b ir hu
  have h1:=fI.string ir w
  have h2:=nU.string hu w
  exact .of (v:=.string b) (w':=w) (by simp [convert,h1,h2]) h
 ·rename_i e a len cap ir hu
  replace h:=di hT h;obtain ⟨de,hde,h⟩:=h
  split at h
  ·rename_i h8
   obtain ⟨l,rfl,hc,hk⟩:=h
   have he:de.under=.int .u8:=by
    revert h8
    cases de.under with
    | int q=>cases q<;>simp [uM]
    | _=>simp [uM]
   have g1:C.P.underlying s=some (.slice e):=by
    obtain ⟨d0,q1,q2⟩:=fI.under
    rw [ir] at q2
    cases d0<;>first|(simp_all [bO];done)|(simp only [bO] at q2;split at q2<;>cases q2)
   have g2:C.P.underlying e=some (.int .u8):=by
    obtain ⟨d0,q1,q2⟩:=hde.under
    rw [he] at q2
    cases d0<;>first|(simp_all [bO];done)|(simp only [bO] at q2;split at q2<;>cases q2)
   have g3:C.P.underlying d=some .string:=by
    obtain ⟨d0,q1,q2⟩:=nU.under
    rw [hu] at q2
    cases d0<;>first|(simp_all [bO];done)|(simp only [bO] at q2;split at q2<;>cases q2)
   refine .of (v:=str l) (w':=w) ?_ hk
   by_cases hl:l=[]
   ·subst hl
    cases a with
    | none=>exact (run_convert_bytes_string w s d e none 0 cap g1 g2 g3).trans (by simp [Conv.bytesToString];rfl)
    | some p=>exact run_convert_bytes_back w s d e p cap [] g1 g2 g3 ae
   ·have hp:=hc.1 (by simpa using hl)
    have:=run_convert_bytes_back w s d e ⟨aN a,aI a,none⟩ cap l g1 g2 g3 (fun j hj=>by rw [addr_add];exact hc.2 j _ (by simp [hj]))
    rw [hp]
    exact this
  ·exact h
 ·exact h
 ·exact h
 ·exact h
 ·exact h.elim
def sj (env:Env):List (Nat×Operand)→(List (Nat×Value)→Prop)→Prop
 | [],k=>k []
 | (i,x)::r,k=>bf env x fun v=>sj env r fun l=>k ((i,v)::l)
theorem C4 {env:Env} {a:Act} (hs:Sat env a.tmps):∀ {xs:List (Nat×Operand)} {k:List (Nat×Value)→Prop},sj env xs k→k (xs.map fun p=>(p.1,a.eval p.2))
 | [],_,h=>h
 | (i,x)::xs,k,h=>by
  have h1:=bF h hs
  exact C4 hs (xs:=xs) h1
def yf (C:Cx) (t:TypeId) (x:Value) (k:Value→Prop):Prop :=
 bV C.T t fun d=>match d.under,x with
  | .string,.string s=>k (.int .i64 (s.size:Int))
  | .slice _,.slice _ n _=>k (.int .i64 (n:Int))
  | .array n _,_=>k (.int .i64 (n:Int))
  | _,_=>False
theorem Sd {C:Cx} (hT:aQ C.P C.T) {t:TypeId} {ts:Array TypeId} {ty:TypeId} {x:Value} {xs:Array Value} {w:World} {k:Value→World→Prop}
  (ht:ts[0]?=some t) (hx:xs[0]?=some x) (h:yf C t x fun v=>k v w):aH C.P (Builtin.len_ ts ty xs) w k:=by
 replace h:=di hT h;obtain ⟨d,hd,h⟩:=h
 split at h
 ·rename_i hu;have h1:=hd.string hu w
  exact .of (w':=w) (by simp [Builtin.len_,ht,hx,h1,goInt]) h
 ·rename_i hu;have h1:=hd.slice hu w
  exact .of (w':=w) (by simp [Builtin.len_,ht,hx,h1,goInt]) h
 ·rename_i hu;have h1:=hd.array hu w
  exact .of (w':=w) (by simp [Builtin.len_,ht,hx,h1,goInt]) h
 ·exact h.elim
def E8 (C:Cx) (fv:Value) (vs:List Value) (w:World) (k:Value→World→Prop) (Z:List PanicEntry→World→Prop):Prop :=
 match fv with
 | .func (.func g) ⟨first⟩ ⟨captured⟩=>aX C.P g (first++vs++captured).toArray w k Z
 | .func (.yield l) ⟨[]⟩ ⟨[]⟩=>tc C.P l vs.toArray w fun b w'=>k (.bool b) w'
 | _=>False
def Aj (C:Cx) (b:Builtin) (ts:Array TypeId) (ty:TypeId) (vs:List Value) (w:World) (k:Value→World→Prop):Prop :=
 match b,ts,vs with
 | .len,⟨[t]⟩,[x]=>yf C t x fun v=>k v w
 | .append,ts,vs=>aH C.P (Builtin.append_ ts ty vs.toArray) w k
 | .copy,ts,vs=>aH C.P (Builtin.copy_ ts ty vs.toArray) w k
 | .min,ts,vs=>aH C.P (Builtin.min_ ts ty vs.toArray) w k
 | .max,ts,vs=>aH C.P (Builtin.max_ ts ty vs.toArray) w k
 | .cap,ts,vs=>aH C.P (Builtin.cap_ ts ty vs.toArray) w k
 | .delete,ts,vs=>aH C.P (Builtin.delete_ ts ty vs.toArray) w k
 | .clear,ts,vs=>aH C.P (Builtin.clear_ ts ty vs.toArray) w k
 | _,_,_=>False
def oX (C:Cx) (op:BinOp) (t:TypeId) (y:Operand) (a b:Value) (w:World) (k:Value→World→Prop):Prop :=
 match y,a,b with
 | .const _,.nilIface,.nilIface=>bV C.T t fun d=>(match d.under,op with
  | .iface,.eql=>k (.bool true) w
  | .iface,.neq=>k (.bool false) w
  | _,_=>False)
 | _,a,b=>ti C op t a b w k
theorem M7 {C:Cx} (hT:aQ C.P C.T) {op:BinOp} {t:TypeId} {x y:Operand} {a b:Value} {w:World} {k:Value→World→Prop} (h:oX C op t y a b w k):aH C.P (do eqGuard op t x y a b;binOp op t a b) w k:=by
 unfold oX at h
 split at h
 ·rename_i c
  replace h:=di hT h;obtain ⟨d,hd,h⟩:=h
  split at h
  ·rename_i hu
   obtain ⟨ms,bg⟩:=hd.iface hu w
   have key:=k7 (P:=C.P) (neg:=false) (t:=t) (x:=x) (y:=.const c) (a:=.nilIface) (b:=.nilIface) (w:=w) (r:=true) (by simp [eqGuard]) bo (fun m=>by simp only [Op.equalIn,Sem.run_bind,bg,Result.andThen_ok,Sem.run_pure])
   exact .of key h
  ·rename_i hu
   obtain ⟨ms,bg⟩:=hd.iface hu w
   have key:=k7 (P:=C.P) (neg:=true) (t:=t) (x:=x) (y:=.const c) (a:=.nilIface) (b:=.nilIface) (w:=w) (r:=true) (by simp [eqGuard]) bo (fun m=>by simp only [Op.equalIn,Sem.run_bind,bg,Result.andThen_ok,Sem.run_pure])
   exact .of key h
  ·exact h.elim
 ·exact M5 hT h
def wc (P:Program) (t:TypeId) (u:Value) (m:String) (f:FuncId) (x:Value):Prop:=∀w:World,(method (P.types.size+Made.depth) t u m).run P w=.ok (f,x) w
def iB (C:Cx) (op:Op) (ty:TypeId) (env:Env) (w:World) (k:Value→World→Prop) (Z:List PanicEntry→World→Prop):Prop :=
 match op with
 | .move x=>bf env x fun v=>k v w
 | .assign x=>bf env x fun v=>k v w
 | .pick c a b=>bf env c fun v=>(match v with
  | .bool t=>gK 0 t fun t'=>(match t' with|true=>bf env a fun u=>k u w|false=>bf env b fun u=>k u w)
  | _=>False)
 | .alloc t=>EP C t w k
 | .box t x=>bf env x fun v=>E1 t v w k
 | .load t x=>bf env x fun v=>od C t v w k
 | .store t x y=>bf env x fun a=>bf env y fun v=>DV C t a v w fun w'=>k undef w'
 | .nilCheck x=>bf env x fun v=>(match v with
  | .pointer (some a)=>k (.pointer (some a)) w
  | .func (.func f) a b=>k (.func (.func f) a b) w
  | .func (.yield f) a b=>k (.func (.yield f) a b) w
  | .map r=>k (.map r) w
  | .iface t u=>k (.iface t u) w
  | _=>False)
 | .binOp op t x y _=>bf env x fun a=>bf env y fun b=>oX C op t y a b w k
 | .unOp op _ x=>bf env x fun a=>sM op a fun v=>k v w
 | .convert s d x=>bf env x fun a=>wP C s d a w k
 | .fieldAddr t x f=>bf env x fun a=>rl C t a f w k
 | .field t x f=>bf env x fun a=>ru C t a f w k
 | .indexAddr t x i=>bf env x fun a=>bf env i fun j=>p9 C t a j w k
 | .index t x i=>bf env x fun a=>bf env i fun j=>qa C t a j w k
 | .extract x i=>bf env x fun a=>tI a i w k
 | .build t parts=>sj env parts.toList fun ps=>tj C t ps w k
 | .buildSlice t n parts=>sj env parts.toList fun ps=>E4 C t n ps w k
 | .makeFunc (.func f) first captured=>eT env first.toList fun a=>eT env captured.toList fun b=>k (.func (.func f) a.toArray b.toArray) w
 | .makeInterface t x=>bf env x fun a=>aH C.P (Instr.makeInterface t a) w k
 | .makeMap t none=>aH C.P (Instr.makeMap t none) w k
 | .makeSlice t x y=>bf env x fun a=>bf env y fun b=>aH C.P (Instr.makeSlice t a b) w k
 | .slice t x lo hi mx=>bf env x fun a=>eT env lo.toList fun l=>eT env hi.toList fun h=>eT env mx.toList fun m=>oF C t a l.head? h.head? m.head? w k
 | .lookup t x i ok=>bf env x fun a=>bf env i fun j=>aH C.P (Instr.lookup t a j ok) w k
 | .range t x=>bf env x fun a=>aH C.P (Instr.range t a) w k
 | .next x s=>bf env x fun a=>aH C.P (Instr.next a s ty) w k
 | .entry x=>bf env x fun a=>aH C.P (Instr.entry a) w k
 | .sliceToArrayPointer t x=>bf env x fun a=>aH C.P (Instr.arrayAt t a) w k
 | .typeAssert x t t' ok=>bf env x fun a=>aH C.P (Instr.typeAssert a t t' ok) w k
 | .mapUpdate t m i x=>bf env m fun a=>bf env i fun j=>bf env x fun v=>aH C.P (do Instr.mapUpdate t a j v;pure undef) w k
 | .insert t m i x=>bf env m fun a=>bf env i fun j=>bf env x fun v=>aH C.P (do Instr.mapUpdate t a j v;pure undef) w k
 | .call ⟨.value f,args,_⟩=>bf env f fun fv=>eT env args.toList fun vs=>E8 C fv vs w k Z
 | .call ⟨.builtin b,args,ts⟩=>eT env args.toList fun vs=>Aj C b ts ty vs w k
 | .panic x=>bf env x fun v=>(match v with
  | .iface t u=>Z [{ v:=.iface t u,recovered:=false }] w
  | _=>False)
 | .call ⟨.invoke r m,args,_⟩=>bf env r fun rv=>eT env args.toList fun vs=>(match rv with
  | .iface t u=>∃f x,wc C.P t u m f x∧aX C.P f (x::vs).toArray w k Z
  | _=>False)
 | _=>False
def fj (T:List TD) (t:TypeId):jS:=match T[t]? with|some d=>d.under|none=>.other
def gA (T:List TD):Op→Bool
 | .move _|.assign _|.pick _ _ _|.load _ _|.nilCheck _|.unOp _ _ _|.fieldAddr _ _ _|.field _ _ _|.indexAddr _ _ _|.index _ _ _|.extract _ _|.slice _ _ _ _ _=>true
 | .makeFunc (.func _) _ _=>true
 | .binOp _ t _ _ _=>(match fj T t with|.array _ _=>false|_=>true)
 | .build t _=>(match fj T t with|.struct _=>true|_=>false)
 | .convert s d _=>(match fj T s,fj T d with
  | .int _,.int _=>true
  | .string,.string=>true
  | .slice e,.string=>uM (fj T e)
  | _,_=>false)
 | .call ⟨.builtin .len,⟨[_]⟩,⟨[_]⟩⟩=>true
 | _=>false
def qm:Op→Bool
 | .load _ _=>true
 | .convert _ _ _=>true
 | _=>false
theorem XD {C:Cx} {o:Oper} {a:Act} {w:World} {next:Act→World→Prop} {Q:Exit→Act→World→Prop} {s:Sem Value}
  (hs:Oper.semAt C.r a.eval o=(do pure (.value (←s)))) (h:aH C.P s w fun v w'=>next (a.put o.dst v) w'):o.wpIn (Fr C.r) 0 C.P a w next Q:=by
 obtain ⟨v,w',hr,hk⟩:=h.ex
 refine ⟨fun _ _=>trivial,?_⟩
 have e:(Fr C.r).round=C.r:=rfl
 rw [e,hs]
 simp only [Sem.run_bind,hr,Result.andThen_ok,Sem.run_pure]
 exact hk
theorem XC {C:Cx} {o:Oper} {a:Act} {w:World} {next:Act→World→Prop} {Q:Exit→Act→World→Prop} {s:Sem Unit}
  (hs:Oper.semAt C.r a.eval o=(do s;pure .skip)) (h:∃w',s.run C.P w=.ok () w'∧next (a.put o.dst undef) w'):o.wpIn (Fr C.r) 0 C.P a w next Q:=by
 obtain ⟨w',hr,hk⟩:=h
 refine ⟨fun _ _=>trivial,?_⟩
 have e:(Fr C.r).round=C.r:=rfl
 rw [e,hs]
 simp only [Sem.run_bind,hr,Result.andThen_ok,Sem.run_pure]
 exact hk
theorem upon_enter {C:Cx} {o:Oper} {a:Act} {w:World} {next:Act→World→Prop} {Q:Exit→Act→World→Prop} {f:FuncId} {args:Array Value}
  (hs:(Oper.semAt C.r a.eval o).run C.P w=(callFunc f args).run C.P w) (h:aX C.P f args w (fun v w'=>next (a.put o.dst v) w') (fun ch w'=>Q (.panic ch) a w')):o.wpIn (Fr C.r) 0 C.P a w next Q:=by
 refine ⟨fun _ _=>trivial,?_⟩
 have e:(Fr C.r).round=C.r:=rfl
 rw [e,hs]
 rcases h.out with ⟨he,h⟩|⟨v,w',hr,hk⟩
 ·rw [he args w]
  refine ⟨fun h=>by simp [Fr,Fence.wide] at h,tn.2 (Calls.iw h ?_)⟩
  intro e w' r
  cases e with
  | returned v=>exact r
  | panicked c=>exact r
  | outgrown=>exact r.elim
 ·rw [hr]
  exact hk
theorem Km {P:Program} {s:Sem Unit} {w:World} {k:Value→World→Prop} (h:aH P (do s;pure undef) w k):∃w',s.run P w=.ok () w'∧k undef w':=by
 obtain ⟨v,w',hr,hk⟩:=h.ex
 simp only [Sem.run_bind] at hr
 cases hs:s.run P w with
 | ok u w1 =>
  simp only [hs,Result.andThen_ok,Sem.run_pure,Result.ok.injEq] at hr
  obtain ⟨rfl,rfl⟩:=hr
  exact ⟨w1,rfl,hk⟩
 | halt h w1=>simp [hs] at hr
theorem bU {C:Cx} {o:Oper} {a:Act} {op:Op} (ho:o.op=op) (h:∀c,op≠.defer c):Oper.semAt C.r a.eval o=execOp a.eval o :=
 Oper.semAt_eq _ _ _ (fun c hc=>h c (ho ▸ hc))
theorem Qt {a:Act} (x:Option Operand):(x.toList.map a.eval).head?=x.map a.eval:=by cases x<;>rfl
theorem Ew {C:Cx} (hT:aQ C.P C.T) {o:Oper} {env:Env} {a:Act} (hs:Sat env a.tmps) {w:World} {k:Value→World→Prop} {Z:List PanicEntry→World→Prop}
  (h:iB C o.op o.type env w k Z) :
  (∃s:Sem Value,Oper.semAt C.r a.eval o=(do pure (.value (←s)))∧aH C.P s w k) ∨
  (gA C.T o.op=false∧∃s:Sem Unit,Oper.semAt C.r a.eval o=(do s;pure .skip)∧∃w',s.run C.P w=.ok () w'∧k undef w') ∨
  (gA C.T o.op=false∧∃f args,(Oper.semAt C.r a.eval o).run C.P w=(callFunc f args).run C.P w∧aX C.P f args w k Z) ∨
  (gA C.T o.op=false∧∃l fn tmps assign body,(Oper.semAt C.r a.eval o).run C.P w=.ok (.round l fn tmps assign body) w∧RoundIn (Fr none) 0 C.P l fn tmps assign body w fun e w'=>∃v,e=.returned v∧k v w') ∨
  (gA C.T o.op=false∧∃t u,(Oper.semAt C.r a.eval o).run C.P w=.halt (.panic (.iface t u)) w∧Z [{ v:=.iface t u,recovered:=false }] w):=by
 generalize ho:o.op=op at h
 unfold iB at h
 split at h
 case h_1 x =>
  exact .inl ⟨pure (a.eval x),(by rw [bU ho ae];simp [execOp,ho]),.of ae (bF h hs)⟩
 case h_2 x =>
  exact .inl ⟨pure (a.eval x),(by rw [bU ho ae];simp [execOp,ho]),.of ae (bF h hs)⟩
 case h_3 c x y =>
  replace h:=bF h hs
  split at h
  ·rename_i t ht
   replace h:=Ax.1 h
   cases t with
   | true =>
    exact .inl ⟨pure (a.eval x),(by rw [bU ho ae];simp [execOp,ho,ht,asBool]),.of ae (bF h hs)⟩
   | false =>
    exact .inl ⟨pure (a.eval y),(by rw [bU ho ae];simp [execOp,ho,ht,asBool]),.of ae (bF h hs)⟩
  ·exact h.elim
 case h_4 t =>
  exact .inl ⟨Instr.alloc t true (.tuple #[]),(by rw [bU ho ae];simp [execOp,ho]),MF hT h⟩
 case h_5 t x =>
  exact .inl ⟨Instr.box t (a.eval x),(by rw [bU ho ae];simp [execOp,ho]),Nc (bF h hs)⟩
 case h_6 t x =>
  exact .inl ⟨Instr.loadAt t (a.eval x),(by rw [bU ho ae];simp [execOp,ho]),Sj hT (bF h hs)⟩
 case h_7 t x y =>
  replace h:=bF (bF h hs) hs
  obtain ⟨w',hr,hk⟩:=Wk hT h
  exact .inr (.inl ⟨rfl,Instr.storeAt t (a.eval x) (a.eval y),(by rw [bU ho ae];simp [execOp,ho]),w',hr,hk⟩)
 case h_8 x =>
  replace h:=bF h hs
  split at h
  all_goals first
   | exact h.elim
   | (rename_i hx
      exact .inl ⟨pure (a.eval x),(by rw [bU ho ae];simp [execOp,ho,hx]),.of (by simp [hx]) h⟩)
 case h_9 op t x y _ =>
  replace h:=bF (bF h hs) hs
  exact .inl ⟨(do eqGuard op t x y (a.eval x) (a.eval y);binOp op t (a.eval x) (a.eval y)),(by rw [bU ho ae];simp [execOp,ho]),M7 hT h⟩
 case h_10 op _ x =>
  replace h:=bF h hs
  exact .inl ⟨Op.unary op (a.eval x),(by rw [bU ho ae];simp [execOp,ho]),Xr h⟩
 case h_11 s d x =>
  exact .inl ⟨convert s d (a.eval x),(by rw [bU ho ae];simp [execOp,ho]),N9 hT (bF h hs)⟩
 case h_12 t x f =>
  exact .inl ⟨Instr.fieldAt t (a.eval x) f,(by rw [bU ho ae];simp [execOp,ho]),O8 hT (bF h hs)⟩
 case h_13 t x f =>
  exact .inl ⟨Instr.field t (a.eval x) f,(by rw [bU ho ae];simp [execOp,ho]),Pa hT (bF h hs)⟩
 case h_14 t x i =>
  exact .inl ⟨Instr.indexAt t (a.eval x) (a.eval i),(by rw [bU ho ae];simp [execOp,ho]),RG hT (bF (bF h hs) hs)⟩
 case h_15 t x i =>
  exact .inl ⟨Instr.index t (a.eval x) (a.eval i),(by rw [bU ho ae];simp [execOp,ho]),RP hT (bF (bF h hs) hs)⟩
 case h_16 x i =>
  exact .inl ⟨Instr.extract (a.eval x) i,(by rw [bU ho ae];simp [execOp,ho]),O5 (bF h hs)⟩
 case h_17 t parts =>
  replace h:=C4 hs h
  refine .inl ⟨Instr.build t (parts.map fun (i,x)=>(i,a.eval x)),(by rw [bU ho ae];simp [execOp,ho]),?_⟩
  have e:(List.map (fun p:Nat×Operand=>(p.1,a.eval p.2)) parts.toList).toArray=parts.map fun (i,x)=>(i,a.eval x):=by apply Array.ext';simp
  rw [←e];exact Nf hT h
 case h_18 t n parts =>
  replace h:=C4 hs h
  refine .inl ⟨Instr.buildSlice t n (parts.map fun (i,x)=>(i,a.eval x)),(by rw [bU ho ae];simp [execOp,ho]),?_⟩
  have e:(List.map (fun p:Nat×Operand=>(p.1,a.eval p.2)) parts.toList).toArray=parts.map fun (i,x)=>(i,a.eval x):=by apply Array.ext';simp
  rw [←e];exact Nd hT h
 case h_19 f first captured =>
  replace h:=nr hs (nr hs h)
  refine .inl ⟨Instr.makeFunc (.func f) (first.map a.eval) (captured.map a.eval),(by rw [bU ho ae];simp [execOp,ho]),.of ?_ h⟩
  have e1:∀l:Array Operand,(List.map a.eval l.toList).toArray=l.map a.eval:=fun l=>by apply Array.ext';simp
  rw [e1,e1]
  simp [Instr.makeFunc]
 case h_20 t x =>
  exact .inl ⟨Instr.makeInterface t (a.eval x),(by rw [bU ho ae];simp [execOp,ho]),bF h hs⟩
 case h_21 t =>
  exact .inl ⟨Instr.makeMap t none,(by rw [bU ho ae];simp [execOp,ho]),h⟩
 case h_22 t x y =>
  exact .inl ⟨Instr.makeSlice t (a.eval x) (a.eval y),(by rw [bU ho ae];simp [execOp,ho]),bF (bF h hs) hs⟩
 case h_23 t x lo hi mx =>
  replace h:=nr hs (nr hs (nr hs (bF h hs)))
  simp only [Qt] at h
  exact .inl ⟨Instr.sliceAt t (a.eval x) (lo.map a.eval) (hi.map a.eval) (mx.map a.eval),(by rw [bU ho ae];simp [execOp,ho]),VR hT h⟩
 case h_24 t x i ok =>
  exact .inl ⟨Instr.lookup t (a.eval x) (a.eval i) ok,(by rw [bU ho ae];simp [execOp,ho]),bF (bF h hs) hs⟩
 case h_25 t x =>
  exact .inl ⟨Instr.range t (a.eval x),(by rw [bU ho ae];simp [execOp,ho]),bF h hs⟩
 case h_26 x s =>
  exact .inl ⟨Instr.next (a.eval x) s o.type,(by rw [bU ho ae];simp [execOp,ho]),bF h hs⟩
 case h_27 x =>
  exact .inl ⟨Instr.entry (a.eval x),(by rw [bU ho ae];simp [execOp,ho]),bF h hs⟩
 case h_28 t x =>
  exact .inl ⟨Instr.arrayAt t (a.eval x),(by rw [bU ho ae];simp [execOp,ho]),bF h hs⟩
 case h_29 x t t' ok =>
  exact .inl ⟨Instr.typeAssert (a.eval x) t t' ok,(by rw [bU ho ae];simp [execOp,ho]),bF h hs⟩
 case h_30 t m i x =>
  obtain ⟨w',hr,hk⟩:=Km (bF (bF (bF h hs) hs) hs)
  exact .inr (.inl ⟨rfl,Instr.mapUpdate t (a.eval m) (a.eval i) (a.eval x),(by rw [bU ho ae];simp [execOp,ho]),w',hr,hk⟩)
 case h_31 t m i x =>
  obtain ⟨w',hr,hk⟩:=Km (bF (bF (bF h hs) hs) hs)
  exact .inr (.inl ⟨rfl,Instr.mapUpdate t (a.eval m) (a.eval i) (a.eval x),(by rw [bU ho ae];simp [execOp,ho]),w',hr,hk⟩)
 case h_32 f args ts =>
  replace h:=nr hs (bF h hs)
  unfold E8 at h
  split at h
  ·rename_i g first captured hf
   refine .inr (.inr (.inl ⟨rfl,g,(first++args.toList.map a.eval++captured).toArray,?_,h⟩))
   rw [bU ho ae]
   simp only [execOp,ho,resolve,hf,Deferred.ofValue,invoke,Sem.run_bind,Sem.run_pure,Result.andThen_ok]
   congr 2
   apply Array.ext'
   simp
  ·rename_i l hf
   obtain ⟨fn,tmps,assign,body,h1,h2⟩:=h.out
   refine .inr (.inr (.inr (.inl ⟨rfl,l,fn,tmps,assign,body,?_,h2.mono fun e w' ⟨b,he,hk⟩=>⟨_,he,hk⟩⟩)))
   rw [bU ho ae]
   have xx:(args.toList.map a.eval).toArray=args.map a.eval:=by apply Array.ext';simp
   rw [xx] at h1
   simp only [execOp,ho,resolve,hf,Deferred.ofValue,invoke,Sem.run_bind,Sem.run_pure,Result.andThen_ok]
   rw [←h1]
   congr 2
   apply Array.ext'
   simp
  ·exact h.elim
 case h_33 b args ts =>
  replace h:=nr hs h
  have xx:(args.toList.map a.eval).toArray=args.map a.eval:=by apply Array.ext';simp
  unfold Aj at h
  split at h
  ·rename_i t x hx
   refine .inl ⟨Builtin.len_ #[t] o.type (args.map a.eval),(by rw [bU ho ae];simp [execOp,ho,resolve,invoke,builtin]),Sd hT (t:=t) (x:=x) rfl ?_ h⟩
   rw [←xx,hx];rfl
  all_goals first
   | exact h.elim
   | (rw [xx] at h
      refine .inl ⟨_,?_,h⟩
      rw [bU ho ae]
      simp [execOp,ho,resolve,invoke,builtin])
 case h_34 x =>
  replace h:=bF h hs
  split at h
  ·rename_i t u hx
   refine .inr (.inr (.inr (.inr ⟨rfl,t,u,?_,h⟩)))
   rw [bU ho ae]
   simp only [execOp,ho,hx,Sem.run_bind]
   rfl
  ·exact h.elim
 case h_35 r m args ts =>
  replace h:=nr hs (bF h hs)
  split at h
  ·rename_i t u hr
   obtain ⟨f,x,hm,h⟩:=h
   refine .inr (.inr (.inl ⟨rfl,f,(x::args.toList.map a.eval).toArray,?_,h⟩))
   rw [bU ho ae]
   have e:(x::args.toList.map a.eval).toArray=#[x]++args.map a.eval:=by apply Array.ext';simp
   rw [e]
   have key:∀A:Array Value,(invoke (.fn (.method m) #[]) (#[Value.iface t u]++A)).run C.P w=(callFunc f (#[x]++A)).run C.P w:=by
    intro A
    have e0:(#[Value.iface t u]++A)[0]?=some (.iface t u):=by rw [Array.getElem?_append_left ae];rfl
    simp [invoke,callMethod,e0,go_sem,hm w]
   simp only [execOp,ho,resolve,hr,Sem.run_bind,Sem.run_pure,Result.andThen_ok]
   exact key _
  ·exact h.elim
 case h_36=>exact h.elim
theorem qF {C:Cx} (hT:aQ C.P C.T) {o:Oper} {env:Env} {a:Act} (hs:Sat env a.tmps) {w:World} {k:Value→World→Prop} {Z:List PanicEntry→World→Prop}
  (h:iB C o.op o.type env w k Z) {next:Act→World→Prop} {Q:Exit→Act→World→Prop} (hn:∀v w',k v w'→next (a.put o.dst v) w') (hz:∀ch w',Z ch w'→Q (.panic ch) a w') :
  o.wpIn (Fr C.r) 0 C.P a w next Q:=by
 rcases Ew hT hs h with ⟨s,h1,v,w',hr,hk⟩|⟨_,s,h1,w',hr,hk⟩|⟨_,f,args,h1,h2⟩|⟨_,l,fn,tmps,assign,body,h1,h2⟩|⟨_,t,u,h1,h2⟩
 ·exact XD h1 ⟨v,w',hr,hn _ _ hk⟩
 ·exact XC h1 ⟨w',hr,hn _ _ hk⟩
 ·exact upon_enter h1 (aX.mono h2 hn hz)
 ·refine ⟨fun _ _=>trivial,?_⟩
  have e:(Fr C.r).round=C.r:=rfl
  rw [e,h1]
  refine ⟨fun h=>by simp [Fr,Fence.wide] at h,U8 (h2.mono ?_)⟩
  rintro e w' ⟨v,rfl,hk⟩
  exact hn _ _ hk
 ·refine ⟨fun _ _=>trivial,?_⟩
  have e:(Fr C.r).round=C.r:=rfl
  rw [e,h1]
  exact hz _ _ h2
def iU (n:Nat) (d:Option Tmp) (v:Value) (env:Env) (k:Env→Prop):Prop :=
 match d with
 | none=>k env
 | some d=>(match Nat.ble (d+1) n with|true=>k ((d,v)::env)|false=>False)
theorem gV {n:Nat} {d:Option Tmp} {v:Value} {env:Env} {k:Env→Prop} {a:Act} (h:iU n d v env k) (hs:Sat env a.tmps) (hn:a.tmps.size=n) :
  ∃au,Sat au (a.put d v).tmps∧(a.put d v).tmps.size=n∧(a.put d v).defers=a.defers∧k au:=by
 unfold iU at h
 split at h
 ·exact ⟨env,hs,hn,rfl,h⟩
 ·rename_i d
  split at h
  ·rename_i hb
   have hlt:d<a.tmps.size:=by rw [hn];exact Nat.le_of_ble_eq_true hb
   exact ⟨_,hs.put hlt v,by simp [Act.put,hn],rfl,h⟩
  ·exact h.elim
def wW:List Oper→Nat→(Nat→Prop)→Prop
 | [],_,_=>False
 | o::_,0,k=>(match o.dst with|some s=>k s|none=>False)
 | _::r,j+1,k=>wW r j k
theorem OA {l:List Oper} {j:Nat} {k:Nat→Prop} (h:wW l j k):∃o s,l[j]?=some o∧o.dst=some s∧k s:=by
 induction l generalizing j with
 | nil=>exact h.elim
 | cons o r ih =>
  cases j with
  | zero =>
   simp only [wW] at h
   split at h
   ·rename_i s hs;exact ⟨o,s,rfl,hs,h⟩
   ·exact h.elim
  | succ j=>obtain ⟨o',s,h1,h2,h3⟩:=ih h;exact ⟨o',s,h1,h2,h3⟩
def nN (ops:List Oper) (env:Env) (g:Option (Nat×Bool)) (ex sk:Env→Prop):Prop :=
 match g with
 | none=>ex env
 | some (j,want)=>wW ops j fun s=>my env s fun v=>(match v with
  | .bool b=>gK 0 b fun b'=>(match b',want with
   | true,true=>ex ((s,.bool true)::env)
   | false,false=>ex ((s,.bool false)::env)
   | true,false=>sk ((s,.bool true)::env)
   | false,true=>sk ((s,.bool false)::env))
  | .tuple _=>sk env
  | _=>False)
theorem rC {ops:List Oper} {env:Env} {o:Oper} {ex sk:Env→Prop} {tm:Array Value} (h:nN ops env o.guard ex sk) (hs:Sat env tm) :
  (Region.wanted o (yielded ops.toArray tm)=true∧∃au,Sat au tm∧ex au)∨(Region.wanted o (yielded ops.toArray tm)=false∧∃au,Sat au tm∧sk au):=by
 unfold nN at h
 split at h
 ·rename_i hg
  exact .inl ⟨by simp [Region.wanted,hg],env,hs,h⟩
 ·rename_i j want hg
  replace h:=OA h;obtain ⟨oj,s,ho,hd,h⟩:=h
  replace h:=nM.1 h;obtain ⟨v,hv,h⟩:=h
  have uF:=hs s v hv
  have hy:yielded ops.toArray tm j=match v with|.bool b=>some b|_=>none:=by
   have gP:ops.toArray[j]?=some oj:=by simpa using ho
   simp only [yielded,gP,Option.bind_some,hd,uF]
   cases v<;>rfl
  split at h
  ·rename_i b
   replace h:=Ax.1 h
   cases b<;>cases want<;>simp only at h
   ·exact .inl ⟨by simp [Region.wanted,hg,hy],_,hs.cons uF,h⟩
   ·exact .inr ⟨by simp [Region.wanted,hg,hy],_,hs.cons uF,h⟩
   ·exact .inr ⟨by simp [Region.wanted,hg,hy],_,hs.cons uF,h⟩
   ·exact .inl ⟨by simp [Region.wanted,hg,hy],_,hs.cons uF,h⟩
  ·exact .inr ⟨by simp [Region.wanted,hg,hy],env,hs,h⟩
  ·exact h.elim
def yD:Env→World→(Env→World→Prop)→(List PanicEntry→World→Prop)→Prop:=fun env w K _=>K env w
def Tz (C:Cx) (ops:List Oper) (o:Oper) (_:List Oper) (r:Env→World→(Env→World→Prop)→(List PanicEntry→World→Prop)→Prop):Env→World→(Env→World→Prop)→(List PanicEntry→World→Prop)→Prop :=
 fun env w K Z=>nN ops env o.guard
   (fun au=>iB C o.op o.type au w (fun v w'=>iU C.n o.dst v au fun bQ=>r bQ w' K Z) Z)
   (fun au=>iU C.n o.dst undef au fun bQ=>r bQ w K Z)
noncomputable def qD (C:Cx) (ops:List Oper) (l:List Oper):Env→World→(Env→World→Prop)→(List PanicEntry→World→Prop)→Prop :=
 List.rec (motive:=fun _=>Env→World→(Env→World→Prop)→(List PanicEntry→World→Prop)→Prop) yD (Tz C ops) l
theorem LQ {C:Cx} {ops:List Oper} {o:Oper} {rest:List Oper} {env:Env} {w:World} {K:Env→World→Prop} {Z:List PanicEntry→World→Prop}:qD C ops (o::rest) env w K Z=nN ops env o.guard
   (fun au=>iB C o.op o.type au w (fun v w'=>iU C.n o.dst v au fun bQ=>qD C ops rest bQ w' K Z) Z)
   (fun au=>iU C.n o.dst undef au fun bQ=>qD C ops rest bQ w K Z):=rfl
theorem Ev {C:Cx} (hT:aQ C.P C.T) {ops:List Oper} {Q:Exit→Act→World→Prop} {K:Env→World→Prop} {Z:List PanicEntry→World→Prop} {ds:List Deferred}
  (hQ:∀env (a:Act) w,Sat env a.tmps→a.tmps.size=C.n→a.defers=ds→K env w→Q .normal a w) (hZ:∀(a:Act) w ch,a.tmps.size=C.n→a.defers=ds→Z ch w→Q (.panic ch) a w) :
  ∀ {l:List Oper} {env:Env} {a:Act} {w:World},Sat env a.tmps→a.tmps.size=C.n→a.defers=ds→qD C ops l env w K Z→wpListIn (Fr C.r) 0 C.P ops.toArray Q l a w
 | [],env,a,w,hs,hn,hd,h=>hQ env a w hs hn hd h
 | o::rest,env,a,w,hs,hn,hd,h=>by
  unfold wpListIn
  rw [LQ] at h
  rcases rC h hs with ⟨hw,au,hs',h'⟩|⟨hw,au,hs',h'⟩
  ·rw [if_pos hw]
   refine qF hT hs' h' (fun v w' hk=>?_) (fun ch w' hz=>hZ a w' ch hn hd hz)
   obtain ⟨bQ,h1,h2,h3,h4⟩:=gV hk hs' hn
   exact Ev hT hQ hZ h1 h2 (h3.trans hd) h4
  ·rw [if_neg (by simp [hw])]
   refine ⟨fun _ _=>trivial,?_⟩
   obtain ⟨bQ,h1,h2,h3,h4⟩:=gV h' hs' hn
   exact Ev hT hQ hZ h1 h2 (h3.trans hd) h4
def iT (env:Env):List Nat→(Env→Prop)→Prop
 | [],k=>k []
 | t::ts,k=>match get? env t with
  | some v=>iT env ts fun e=>k ((t,v)::e)
  | none=>iT env ts k
theorem xj {s:Nat} {v:Value} {env:Env} {t:Nat} {u:Value} (h:get? ((s,v)::env) t=some u):(s=t∧v=u)∨get? env t=some u:=by
 simp only [get?] at h
 cases e:Nat.beq s t with
 | true=>simp only [e] at h;cases h;exact .inl ⟨Nat.eq_of_beq_eq_true e,rfl⟩
 | false=>simp only [e] at h;exact .inr h
theorem lU {env:Env}:∀ {ts:List Nat} {k:Env→Prop},iT env ts k→∃e',(∀t v,get? e' t=some v→get? env t=some v)∧k e'
 | [],k,h=>⟨[],fun t v h=>by simp [get?] at h,h⟩
 | t::ts,k,h=>by
  simp only [iT] at h
  split at h
  ·rename_i v hv
   obtain ⟨e',h1,h2⟩:=lU h
   refine ⟨_,fun s u hu=>?_,h2⟩
   rcases xj hu with ⟨rfl,rfl⟩|hu
   ·exact hv
   ·exact h1 s u hu
  ·exact lU h
abbrev dU:=Exit→Env→List Deferred→World→Prop
structure aB (C:Cx) (c:Code) (env:Env) (ds:List Deferred) (w:World) (Q:dU):Prop where
 out:∀a:Act,Sat env a.tmps→a.tmps.size=C.n→a.defers=ds →
  c.wpIn (Fr C.r) 0 C.P (fun e a' w'=>a'.tmps.size=C.n∧∃au,Sat au a'.tmps∧Q e au a'.defers w') a w
theorem aB.mono {C:Cx} {c:Code} {env:Env} {ds:List Deferred} {w:World} {Q Q':dU} (h:aB C c env ds w Q) (hq:∀e env ds w,Q e env ds w→Q' e env ds w):aB C c env ds w Q' :=
 ⟨fun a hs hn hd=>wpIn_mono (h.out a hs hn hd) fun _ _ _ ⟨h1,au,h2,h3⟩=>⟨h1,au,h2,hq _ _ _ _ h3⟩⟩
abbrev Den:=Env→List Deferred→World→dU→Prop
def E7:Den:=fun env ds w Q=>Q .normal env ds w
def Np (_ _:Code) (x y:Den):Den:=fun env ds w Q=>x env ds w fun e au ds' w'=>(match e with
  | .normal=>y au ds' w' Q
  | e=>Q e au ds' w')
def Nl (c:Operand) (_ _:Code) (x y:Den):Den:=fun env ds w Q=>bf env c fun v=>(match v with
  | .bool b=>gK 0 b fun b'=>(match b' with
   | true=>x env ds w Q
   | false=>y env ds w Q)
  | _=>False)
def Nk (id:Nat) (_:Code) (c:Den):Den:=fun env ds w Q=>c env ds w fun e au ds' w'=>(match e with
  | .exit p8=>(match Nat.beq p8 id with
   | true=>Q .normal au ds' w'
   | false=>Q (.exit p8) au ds' w')
  | e=>Q e au ds' w')
noncomputable def Nn (C:Cx) (id:Nat) (ops:Array Oper) (dr:Bool):Den:=fun env ds w Q=>(match dr with
  | false=>qD C ops.toList ops.toList env w (fun au w'=>iT au C.live fun e'=>Q .normal e' ds w') (fun ch w'=>Q (.panic ch) [] ds w')
  | true=>aB C (.region id ops true) env ds w Q)
noncomputable def dT (C:Cx) (c:Code):Den :=
 Code.rec (motive:=fun _=>Den) (skip:=E7) (seq:=Np) (cond:=Nl) (block:=Nk) (region:=Nn C) (label:=fun _=>E7)
  (exit:=fun id env ds w Q=>Q (.exit id) env ds w) (ret:=fun env ds w Q=>Q .ret env ds w)
  (loop:=fun c _=>aB C (.loop c)) (rangeFunc:=fun f ps x y _ _=>aB C (.rangeFunc f ps x y)) (scope:=fun c _=>aB C (.scope c)) (goto:=fun l=>aB C (.goto l)) (refuse:=fun y=>aB C (.refuse y)) c
section
variable {C:Cx} {env:Env} {ds:List Deferred} {w:World} {Q:dU}
theorem XR {x y:Code}:dT C (.seq x y) env ds w Q=dT C x env ds w fun e au ds' w'=>(match e with
  | .normal=>dT C y au ds' w' Q
  | e=>Q e au ds' w'):=rfl
theorem XQ {c:Operand} {x y:Code}:dT C (.cond c x y) env ds w Q=bf env c fun v=>(match v with
  | .bool b=>gK 0 b fun b'=>(match b' with
   | true=>dT C x env ds w Q
   | false=>dT C y env ds w Q)
  | _=>False):=rfl
theorem XP {id:Nat} {c:Code}:dT C (.block id c) env ds w Q=dT C c env ds w fun e au ds' w'=>(match e with
  | .exit p8=>(match Nat.beq p8 id with
   | true=>Q .normal au ds' w'
   | false=>Q (.exit p8) au ds' w')
  | e=>Q e au ds' w'):=rfl
end
theorem ma {C:Cx} (hT:aQ C.P C.T):∀ {c:Code} {env:Env} {ds:List Deferred} {w:World} {Q:dU},dT C c env ds w Q→aB C c env ds w Q:=by
 intro c
 induction c with
 | skip=>exact fun h=>⟨fun a hs hn hd=>wpIn_skip ⟨hn,_,hs,hd ▸ h⟩⟩
 | label l=>exact fun h=>⟨fun a hs hn hd=>wpIn_label ⟨hn,_,hs,hd ▸ h⟩⟩
 | exit id=>exact fun h=>⟨fun a hs hn hd=>wpIn_exit ⟨hn,_,hs,hd ▸ h⟩⟩
 | ret=>exact fun h=>⟨fun a hs hn hd=>wpIn_ret ⟨hn,_,hs,hd ▸ h⟩⟩
 | seq x y yc ihy =>
  intro env ds w Q h
  rw [XR] at h
  refine ⟨fun a hs hn hd=>?_⟩
  refine wpIn_seq (wpIn_mono ((yc h).out a hs hn hd) fun e a' w' ⟨h1,au,h2,h3⟩=>?_)
  cases e with
  | normal=>exact (ihy h3).out a' h2 h1 rfl
  | _=>exact ⟨h1,au,h2,h3⟩
 | cond c x y yc ihy =>
  intro env ds w Q h
  rw [XQ] at h
  refine ⟨fun a hs hn hd=>?_⟩
  replace h:=bF h hs
  split at h
  ·rename_i b hb
   replace h:=Ax.1 h
   cases b with
   | true=>exact wpIn_cond_true hb ((yc h).out a hs hn hd)
   | false=>exact wpIn_cond_false hb ((ihy h).out a hs hn hd)
  ·exact h.elim
 | block id c ih =>
  intro env ds w Q h
  rw [XP] at h
  refine ⟨fun a hs hn hd=>?_⟩
  refine wpIn_block (wpIn_mono ((ih h).out a hs hn hd) fun e a' w' ⟨h1,au,h2,h3⟩=>?_)
  cases e with
  | exit p8 =>
   simp only at h3
   simp only [Exit.inBlock]
   cases e:Nat.beq p8 id with
   | true=>rw [if_pos (Nat.eq_of_beq_eq_true e)];simp only [e] at h3;exact ⟨h1,au,h2,h3⟩
   | false=>rw [if_neg (Nat.ne_of_beq_eq_false e)];simp only [e] at h3;exact ⟨h1,au,h2,h3⟩
  | _=>exact ⟨h1,au,h2,h3⟩
 | region id ops dr =>
  intro env ds w Q h
  cases dr with
  | true=>exact h
  | false =>
   refine ⟨fun a hs hn hd=>?_⟩
   refine wpIn_region_list ?_
   have:=Ev (ops:=ops.toList) (ds:=ds) hT (Q:=fun e a' w'=>a'.tmps.size=C.n∧∃au,Sat au a'.tmps∧Q e au a'.defers w') (fun au a' w' h1 h2 h3 h4=>?_) (fun a' w' ch h1 h2 h3=>?_) hs hn hd h
   ·simpa using this
   ·obtain ⟨e',h5,h6⟩:=lU h4
    exact ⟨h2,e',fun t v ht=>h1 t v (h5 t v ht),h3 ▸ h6⟩
   ·exact ⟨h1,[],Sat.nil _,h2 ▸ h3⟩
 | loop c ih=>exact fun h=>h
 | rangeFunc f ps x y yc ihy=>exact fun h=>h
 | scope c ih=>exact fun h=>h
 | goto l=>exact fun h=>h
 | refuse why=>exact fun h=>h
def kq (big:Env):Env→Prop
 | []=>True
 | (t,v)::r=>get? big t=some v∧kq big r
theorem l5 {big:Env}:∀ {e:Env},kq big e→∀t v,get? e t=some v→get? big t=some v
 | [],_,t,v,h=>by simp [get?] at h
 | (s,u)::r,⟨h1,h2⟩,t,v,h=>by
  rcases xj h with ⟨rfl,rfl⟩|h
  ·exact h1
  ·exact l5 h2 t v h
theorem LX {F:Fence} {n:Nat} {P:Program} {Q:Exit→Act→World→Prop} {a:Act} {w:World} {c:Code} {S:Type} (I:S→Act→World→Prop) (μ:S→World→Nat) (s:S) (RC:I s a w)
  (round:∀s a w,I s a w→c.wpIn F n P (Exit.then (fun a' w'=>∃s',I s' a' w'∧μ s' w'<μ s w) Q) a w):(Code.loop c).wpIn F n P Q a w:=by
 intro b k cs hro hb hr
 have key:∀j s a w,μ s w=j→I s a w →
   ∃e a' w',Q e a' w'∧ArrivesIn (Machine.fenced P F) P (lone (b.atR a (.code c::.inLoop c::k)) cs w) b k cs e a' w':=by
  intro j
  induction j using Nat.strongRecOn with
  | _ j ih =>
   intro s a w hn hI
   obtain ⟨e,jU,jJ,hq,harr⟩:=round s a w hI b (.inLoop c::k) cs hro hb hr
   cases e with
   | normal =>
    obtain ⟨KU,PS,hlt⟩:=hq
    obtain ⟨O6,MX,X1,Re,P5⟩:=ih (μ KU jJ) (hn ▸ hlt) KU jU jJ rfl PS
    exact ⟨O6,MX,X1,Re,.of_steps (StepsIn.trans harr (.one (fenced_calm hb hr rfl) stepR_inLoop)) P5⟩
   | exit id=>exact ⟨_,jU,jJ,hq,.pass (x:=.inLoop c) rfl (fun _ _=>.inl ae) harr⟩
   | goto l=>exact ⟨_,jU,jJ,hq,.pass (x:=.inLoop c) rfl (fun _ _=>.inl ae) harr⟩
   | ret=>exact ⟨_,jU,jJ,hq,.pass (x:=.inLoop c) rfl (fun _ _=>.inl ae) harr⟩
   | panic ch=>exact ⟨_,jU,jJ,hq,.pass (x:=.inLoop c) rfl (fun _ _=>.inl ae) harr⟩
   | outgrown=>exact ⟨_,jU,jJ,hq,.pass (x:=.inLoop c) rfl (fun _ _=>.inl ae) harr⟩
 obtain ⟨e,a',w',hq,harr⟩:=key _ s a w rfl RC
 exact ⟨e,a',w',hq,.of_steps (.one (fenced_calm hb hr rfl) stepR_loop) harr⟩
theorem aK {C:Cx} (hT:aQ C.P C.T) {c:Code} {env:Env} {ds:List Deferred} {w:World} {Q:dU} {S:Type} (ks:List Nat) (vars:S→Env)
  (I:S→World→Prop) (μ:S→World→Nat) (s0:S)
  (h:iT env ks fun fw=>kq env (vars s0)∧I s0 w∧∀s w,I s w→dT C c (vars s++fw) ds w fun e au ds' w'=>(match e with
   | .normal=>ds'=ds∧kq au fw∧∃s',kq au (vars s')∧I s' w'∧μ s' w'<μ s w
   | e=>Q e au ds' w')):aB C (.loop c) env ds w Q:=by
 obtain ⟨fw,hk,h0,hI,hr⟩:=lU h
 have app:∀ {e1 e2:Env} {t:Nat} {v:Value},get? (e1++e2) t=some v→get? e1 t=some v∨get? e2 t=some v:=by
  intro e1 e2 t v h
  induction e1 with
  | nil=>exact .inr h
  | cons p r ih =>
   obtain ⟨s,u⟩:=p
   simp only [List.cons_append,get?] at h ⊢
   cases e:Nat.beq s t with
   | true=>simp only [e] at h ⊢;exact .inl h
   | false=>simp only [e] at h ⊢;exact ih h
 refine ⟨fun a hs hn hd=>?_⟩
 refine LX (fun s a w=>a.tmps.size=C.n∧a.defers=ds∧Sat (vars s++fw) a.tmps∧I s w) μ s0
  ⟨hn,hd,fun t v h=>(app h).elim (fun h=>hs t v (l5 h0 t v h)) (fun h=>hs t v (hk t v h)),hI⟩ ?_
 rintro s a w ⟨hn,hd,hs,hI⟩
 refine wpIn_mono ((ma hT (hr s w hI)).out a hs hn hd) fun e a' w' ⟨h1,au,h2,h3⟩=>?_
 cases e with
 | normal =>
  obtain ⟨h4,h8,s',h5,h6,h7⟩:=h3
  exact ⟨s',⟨h1,h4,fun t v h=>(app h).elim (fun h=>h2 t v (l5 h5 t v h)) (fun h=>h2 t v (l5 h8 t v h)),h6⟩,h7⟩
 | _=>exact ⟨h1,au,h2,h3⟩
def Dz (C:Cx) (x:ResultVar) (env:Env) (w:World) (k:Value→Prop):Prop :=
 match x with
 | .tmp t=>my env t k
 | .cell t ty=>my env t fun v=>od C ty v w fun u _=>k u
def DA (C:Cx) (env:Env) (w:World):List ResultVar→(List Value→Prop)→Prop
 | [],k=>k []
 | x::xs,k=>Dz C x env w fun v=>DA C env w xs fun vs=>k (v::vs)
def lW (C:Cx) (xs:List ResultVar) (env:Env) (w:World) (k:Value→Prop):Prop :=
 match xs with
 | [x]=>Dz C x env w k
 | xs=>DA C env w xs fun vs=>k (.tuple vs.toArray)
def vm (tm:Array Value) (x:ResultVar):Sem Value:=match x with|.tmp t=>pure (tm.getD t undef)|.cell a t=>do loadVar t (←asAddr (tm.getD a undef))
theorem U5 (fn:Func) (tm:Array Value):results fn tm=(do let vs ←fn.results.mapM (vm tm);pure (if h:vs.size=1 then vs[0] else .tuple vs)):=rfl
theorem Kc {C:Cx} (hT:aQ C.P C.T) {x:ResultVar} {env:Env} {w:World} {k:Value→Prop} {tm:Array Value} (hs:Sat env tm) (h:Dz C x env w k) :
  ∃v,(vm tm x).run C.P w=.ok v w∧k v:=by
 cases x with
 | tmp t =>
  obtain ⟨v,hv,hk⟩:=nM.1 h
  have:=hs t v hv
  exact ⟨v,by simp [vm,Array.getD_eq_getD_getElem?,this],hk⟩
 | cell t ty =>
  obtain ⟨v,hv,hk⟩:=nM.1 h
  have:=hs t v hv
  obtain ⟨a,u,rfl,hr,hk⟩:=IX hT hk
  exact ⟨u,by simp [vm,Array.getD_eq_getD_getElem?,this,asAddr,hr],hk⟩
theorem Kd {C:Cx} (hT:aQ C.P C.T) {env:Env} {w:World} {tm:Array Value} (hs:Sat env tm):∀ {xs:List ResultVar} {k:List Value→Prop},DA C env w xs k →
  ∃vs,(xs.mapM (vm tm)).run C.P w=.ok vs w∧vs.length=xs.length∧k vs
 | [],k,h=>⟨[],ae,rfl,h⟩
 | x::xs,k,h=>by
  obtain ⟨v,hv,h⟩:=Kc hT hs h
  obtain ⟨vs,Cm,hl,hk⟩:=Kd hT hs h
  refine ⟨v::vs,?_,by simp [hl],hk⟩
  rw [List.mapM_cons]
  simp [hv,Cm]
theorem zb {C:Cx} (hT:aQ C.P C.T) {fn:Func} {env:Env} {w:World} {tm:Array Value} (hs:Sat env tm) {k:Value→Prop} (h:lW C fn.results.toList env w k) :
  ∃v,(results fn tm).run C.P w=.ok v w∧k v:=by
 rw [U5,←Array.toArray_toList (xs:=fn.results),Array.mapM_eq_mapM_toList]
 unfold lW at h
 split at h
 ·rename_i x hx
  obtain ⟨v,hv,hk⟩:=Kc hT hs h
  refine ⟨v,?_,hk⟩
  rw [hx]
  simp [hv]
 ·rename_i hne
  obtain ⟨vs,Cm,hl,hk⟩:=Kd hT hs h
  refine ⟨_,?_,hk⟩
  simp only [Sem.run_bind,Sem.run_map,Cm,Result.andThen_ok,Sem.run_pure]
  rw [dif_neg]
  intro h1
  have:fn.results.toList.length=1:=by simpa [hl] using h1
  obtain ⟨x,hx⟩:=List.length_eq_one_iff.1 this
  exact hne x hx
def hK:Nat→List Value→Env
 | _,[]=>[]
 | i,v::r=>(i,v)::hK (i+1) r
theorem wm {l:List Value} {m:Nat}:Sat (hK 0 l) (l.toArray++Array.replicate m undef):=by
 have key:∀(l pre:List Value) t v,get? (hK pre.length l) t=some v→(pre++l)[t]?=some v:=by
  intro l
  induction l with
  | nil=>intro pre t v h;simp [hK,get?] at h
  | cons u r ih =>
   intro pre t v h
   rcases xj h with ⟨rfl,rfl⟩|h
   ·simp
   ·have:=ih (pre++[u]) t v (by simpa using h)
    simpa using this
 intro t v h
 have:=key l [] t v h
 simp only [List.nil_append] at this
 have hlt:t<l.length:=(List.getElem?_eq_some_iff.1 this).1
 rw [Array.getElem?_append_left (by simpa using hlt)]
 simpa using this
def mR:List Deferred→World→(World→Prop)→Prop
 | [],w,k=>k w
 | d::ds,w,k=>match d.target with
  | .collected D=>w.heap[D]?=some (.deferred (some []))∧∀w',Tw D w w'→mR ds w' k
  | _=>False
theorem Lg {w:World} {D:Nat} {o o':Obj} (h:w.heap[D]?=some o) (ho:∀c t f,o≠.cells c t f):Tw D w (w.putObj D o'):=by
 refine ⟨rfl,rfl,rfl,by simp [World.putObj],fun k hk=>World.putObj_heap_other aa,fun k c t f hk=>?_⟩
 have hne:k≠D:=by
  intro e;subst e
  rw [h] at hk
  cases hk
  exact ho c t f rfl
 rw [World.putObj_heap_other hne];exact hk
theorem uW {P:Program} {fn:Func} {tm:Array Value} {R:Ending→World→Prop} {u:FrameMode} (hu:u≠.run):∀ {ds:List Deferred} {w:World} {k:World→Prop},mR ds w k→(∀w',k w'→LeavesInM (Fr none) 0 P fn tm R [] u w')→LeavesInM (Fr none) 0 P fn tm R ds u w
 | [],w,k,h,hk=>hk w h
 | d::ds,w,k,h,hk=>by
  unfold mR at h
  split at h
  ·rename_i D hD
   obtain ⟨h1,h2⟩:=h
   refine ⟨hu,.inl ⟨D,_,hD,run_takeDeferred h1,?_⟩⟩
   exact uW hu (h2 _ (Lg h1 (fun _ _ _=>nofun))) hk
  ·exact h.elim
def A7 (C:Cx) (rs:List ResultVar) (K:Value→World→Prop) (Z:List PanicEntry→World→Prop):dU:=fun e env ds w =>
 match e with
 | .normal=>mR ds w fun w'=>lW C rs env w' fun v=>K v w'
 | .ret=>mR ds w fun w'=>lW C rs env w' fun v=>K v w'
 | .panic ch=>mR ds w fun w'=>Z ch w'
 | _=>False
theorem Ns {P:Program} {T:List TD} (hT:aQ P T) {f:FuncId} {fn:Func} {c:Code} {args:List Value} {w:World} {K:Value→World→Prop} {Z:List PanicEntry→World→Prop}
  (hf:P.funcs[f]?=some fn) (hb:fn.body=some c) (hname:(fn.name == "runtime.NumGoroutine")=false) (n:Nat) (hn:fn.ntmps=n) (ha:args.length≤n) (live:List Nat)
  (h:dT ⟨P,T,n,live,none⟩ c (hK 0 args) [] w (A7 ⟨P,T,n,live,none⟩ fn.results.toList K Z)):aX P f args.toArray w K Z:=by
 refine ⟨.inl ⟨ph hf (by simp [hb]) hname,(tn (r:=none) (n:=0)).1 ?_⟩⟩
 refine callsIn_of_wp_marks hf hb trivial ?_
 have hs:Sat (hK 0 args) (args.toArray++Array.replicate (fn.ntmps - args.toArray.size) undef):=wm
 refine wpIn_mono ((ma hT h).out { tmps:=args.toArray++Array.replicate (fn.ntmps - args.toArray.size) undef,defers:=[] } hs (by simp;omega) rfl) ?_
 rintro e a w' ⟨h1,au,h2,h3⟩
 have fin:∀ {ds w},(mR ds w fun w'=>lW ⟨P,T,n,live,none⟩ fn.results.toList au w' fun v=>K v w')→LeavesInM (Fr none) 0 P fn a.tmps (fun e w'=>match e with|.returned v=>K v w'|.panicked ch=>Z ch w'|.outgrown=>False) ds .returning w:=by
  intro ds w h
  refine uW ae h fun w' h=>?_
  obtain ⟨v,hr,hk⟩:=zb (C:=⟨P,T,n,live,none⟩) hT h2 h
  exact ⟨v,hr,hk⟩
 cases e with
 | normal=>exact fin h3
 | ret=>exact fin h3
 | panic ch=>exact uW ae h3 fun w' h=>h
 | exit id=>exact h3.elim
 | goto l=>exact h3.elim
 | outgrown=>exact h3.elim
end Go.Proofs.YtmoiobegbpkkbaaGreatDoor
