/-
  ConvertInjective holds where what comes in is of bulk at most 1048576 (the given statement Rows.ConvertInjectiveUptoCardSaid).
  No other condition.
-/
import Derived.Test.YtmoiobegbpkkbaaGreatDoorKAP
namespace Go.Proofs.YtmoiobegbpkkbaaGreatDoor.convertInjective
open Go Go.RowKit Go.ChangeShapes Go.WideShapes Go.ChangeAt
open Go.ChangeMaps (open_string shut_string)
set_option maxHeartbeats 8000000
theorem own:ownKnob Tryz.prog.godebug=none:=ab
theorem pos:tr Tryz.prog=true:=ab
set_option maxRecDepth 100000 in
theorem N6 (H:Type) (enc:TypeId×Value→H) (W:World) (base:Nat) (args:Array Value) (ds gs:List (DataW H)) (before:List MemPlace)
  (hval:∀(j:Nat) t v,Tryz.f6.params[j]?=some t→args[j]?=some v→Value.okWide Tryz.prog W .any base t v)
  (hW:DataW.Whole enc Tryz.prog Tryz.f6.params.toList Rows.convertInjectiveSpec.vars false W args.toList ds gs before) (hk:Rows.uptoSmall H (ds++gs)=true) (hL:laidMetH Tryz.prog Rows.convertInjectiveUptoRow.laid W) (hsh:W.ShapedOpen Tryz.prog) :
  Calls Tryz.prog 6 args W fun e W'=>∃v,e=.returned v∧Rows.convertInjectiveSpec.post enc Tryz.prog Tryz.f6 false true false false W args v W':=by
 have Bw:=hW
 obtain ⟨p,q,PL,hV,rfl,BN,ed⟩:=hW
 have hA:DataW.TrodAll enc Tryz.prog W 0 (fun _=>true) true Tryz.f6.params.toList args.toList ds p:=PL
 rw [Tryz.params6] at hA hval
 obtain ⟨v0,ZA,d0,Ym,p0,q0,YS,rfl,rfl,h0,r0⟩:=trodAll_cons hA
 obtain ⟨v1,ZB,d1,ds1,p1,q1,P4,rfl,rfl,h1,r1⟩:=trodAll_cons r0
 obtain ⟨rfl,rfl,rfl⟩:=trodAll_nil r1
 subst P4
 obtain rfl:args=#[v0,v1]:=by cases args;simp_all
 obtain ⟨rfl,rfl⟩:=trodVars_none hV
 obtain ⟨x0,l0,rfl,b0,m0⟩:=Jp Tryz.underlying22 Tryz.underlying5 ab (hval 0 22 v0 rfl rfl) h0
 obtain ⟨x1,l1,rfl,b1,m1⟩:=Jp Tryz.underlying22 Tryz.underlying5 ab (hval 1 22 v1 rfl rfl) h1
 have Qf:Rows.uptoBulkAll ([d0,d1]++[])≤1048576:=of_decide_eq_true hk
 simp only [List.append_nil,Rows.uptoBulkAll] at Qf
 exact Calls.iw (aj.calls (ph Tryz.func6 rfl ab) (R7 (Oh hL hsh) b0 b1 aa)) fun e W' ⟨v,he,hv,hE⟩=>⟨v,he,R8 Bw rfl hE pos ab rfl Tryz.underlying4 hv rfl⟩
theorem R5 (os:Os):laidMet Tryz.prog Rows.convertInjectiveUptoRow.laid ((Cw os).forCall (fun _ _=>0) ⟨#[],#[.slice none 0 0,.slice none 0 0],[]⟩).memory :=
 laidMet_of_run' 8 ab ab
theorem reads (os:Os) {H:Type} (enc:TypeId×Value→H):∃places,DataW.whole enc Tryz.prog ((Cw os).forCall (fun _ _=>0) ⟨#[],#[.slice none 0 0,.slice none 0 0],[]⟩).memory Tryz.f6.params.toList Rows.convertInjectiveSpec.vars false (#[.slice none 0 0,.slice none 0 0]:Array Value).toList 8=some ([.nil,.nil],[],places) :=
 ⟨[],ab⟩
set_option maxRecDepth 100000 in
theorem lifted (os:Os) (started:os.Started) (H:Type) (enc:TypeId×Value→H) (F:Stop.Interp) :
  ReturnsInHanded {} Tryz.checked os 6 .any ((Rows.OpenSpec.upto Rows.convertInjectiveSpec).preRow enc Tryz.prog Tryz.f6 Rows.convertInjectiveUptoRow.domain false Rows.convertInjectiveUptoRow.laid) (((Rows.OpenSpec.upto Rows.convertInjectiveSpec).at F).post enc Tryz.prog Tryz.f6 false true false false):=by
 obtain ⟨places,hx⟩:=reads os enc
 refine returnsInHanded_of_row (C:=Tryz.checked) (s:=Rows.OpenSpec.upto Rows.convertInjectiveSpec) own started ab Tryz.func6
  (witness_row_at (enc:=enc) (C:=Tryz.checked) false (Cw os) #[.slice none 0 0,.slice none 0 0] rfl ab ab ab
   (OpenSpec.preRow_of_cond 8 hx ab (fun k hk=>by cases hk;kernel_rfl) ab (R5 os))) ?_
 intro W base args ds gs before hval hW _ hcond _ hL hsh _
 exact N6 H enc W base args ds gs before hval hW (hcond _ rfl) hL hsh
theorem ba {a b:Bool} (h:a=true) (k:b=true):(a&&b)=true:=by rw [h,k];rfl
theorem closed:joinedFacts Tryz.pinned.checked.prog 6 Tryz.f6 (OpenSpec.bare (Rows.OpenSpec.upto Rows.convertInjectiveSpec)) Rows.convertInjectiveUptoRow=true:=by
 unfold joinedFacts
 repeat' (with_reducible refine ba ?_ ?_)
 all_goals as_aux_lemma=>kernel_rfl
theorem Vw:Rows.ConvertInjectiveUptoSaid :=
 OpenClaim.holds_of_cond 6 Tryz.f6 rfl rfl rfl rfl rfl rfl rfl ⟨rfl,rfl,rfl,rfl,rfl⟩ rfl rfl rfl rfl rfl (by as_aux_lemma=>kernel_rfl) Tryz.func6 closed
  (of_decide_eq_true (by as_aux_lemma=>kernel_rfl)) (by unfold Func.isWrapper;first|(rw [if_pos (by decide +kernel)];kernel_rfl)|(rw [if_neg (by decide +kernel)];exact ⟨rfl,rfl⟩))
  fun os started H enc _ F=>by rw [OpenClaim.pre_eq_preRow];exact lifted os started H enc F
theorem plain (f:FuncId) (fn:Func) (hf:Tryz.pinned.checked.prog.funcNamed "scriptorium/scriptoriumlaw2.ConvertInjective"=some f) (hfn:Tryz.pinned.checked.prog.funcs[f]?=some fn) :
  true=Tryz.pinned.checked.prog.looks []∧∀(j:Nat) t,fn.params[j]?=some t→Tryz.pinned.checked.prog.wantsStandIn t=false:=by
 obtain rfl:f=6:=Option.some.inj ((show Tryz.prog.funcNamed "scriptorium/scriptoriumlaw2.ConvertInjective"=some 6 by kernel_rfl).symm.trans hf) |>.symm
 obtain rfl:fn=Tryz.f6:=(Option.some.inj (Tryz.func6.symm.trans hfn)).symm
 refine ⟨ab,fun j t ht=>?_⟩
 rw [Tryz.params6] at ht
 have hall:([22,22]:List TypeId).all (fun t=>!Tryz.prog.wantsStandIn t)=true:=ab
 have hm:=List.all_eq_true.1 hall t (by have h9:=Array.mem_of_getElem? ht;simp at h9 ⊢;first|exact h9|exact Or.symm h9)
 have hm2:Tryz.prog.wantsStandIn t=false:=by simpa using hm
 exact hm2
theorem proved:Rows.ConvertInjectiveUptoCardSaid :=
 Claim7.holds_tied_plain_at .later [] _ _ _ _ Vw (fun _ h=>by cases h) (by as_aux_lemma=>kernel_rfl) (fun _ h=>by cases h) convertInjectiveUpto_row_tie rfl ⟨rfl,rfl⟩ (by as_aux_lemma=>kernel_rfl) rfl plain (by as_aux_lemma=>kernel_rfl)
end Go.Proofs.YtmoiobegbpkkbaaGreatDoor.convertInjective
