/-
  ConvertToMatchesSpec holds where what comes in is of bulk at most 1048576 (the given statement Rows.ConvertToMatchesSpecUptoCardSaid).
  No other condition.
-/
import Derived.Test.YtmoiobegbpkkbaaGreatDoorTAL
namespace Go.Proofs.YtmoiobegbpkkbaaGreatDoor.convertToMatchesSpec
open Go Go.RowKit Go.ChangeShapes Go.WideShapes Go.ChangeAt
open Go.ChangeMaps (open_string shut_string)
set_option maxHeartbeats 8000000
theorem own:ownKnob Tryz.prog.godebug=none:=av
theorem pos:CY Tryz.prog=true:=av
set_option maxRecDepth 100000 in
theorem abU (H:Type) (enc:TypeId×Value→H) (W:World) (base:Nat) (args:Array Value) (ds gs:List (DataW H)) (before:List MemPlace)
  (hval:∀(j:Nat) t v,Tryz.f3.params[j]?=some t→args[j]?=some v→Value.okWide Tryz.prog W .any base t v)
  (hW:DataW.Whole enc Tryz.prog Tryz.f3.params.toList Rows.convertToMatchesSpecSpec.vars false W args.toList ds gs before) (hk:Rows.uptoSmall H (ds++gs)=true) (hL:laidMetH Tryz.prog Rows.convertToMatchesSpecUptoRow.laid W) (hsh:W.ShapedOpen Tryz.prog) :
  Calls Tryz.prog 3 args W fun e W'=>∃v,e=.returned v∧Rows.convertToMatchesSpecSpec.post enc Tryz.prog Tryz.f3 false true false false W args v W':=by
 have Ml:=hW
 obtain ⟨p,q,hA0,hV,rfl,MF,gb⟩:=hW
 have hA:DataW.TrodAll enc Tryz.prog W 0 (fun _=>true) true Tryz.f3.params.toList args.toList ds p:=hA0
 rw [Tryz.params3] at hA hval
 obtain ⟨v0,vs0,d0,ds0,p0,q0,amR,rfl,rfl,h0,r0⟩:=trodAll_cons hA
 obtain ⟨rfl,rfl,rfl⟩:=trodAll_nil r0
 obtain rfl:args=#[v0]:=by cases args;simp_all
 obtain ⟨rfl,rfl⟩:=trodVars_none hV
 obtain ⟨x0,l0,rfl,b0,m0⟩:=ag0 Tryz.underlying22 Tryz.underlying5 av (hval 0 22 v0 rfl rfl) h0
 have adT:Rows.uptoBulkAll ([d0]++[])≤1048576:=of_decide_eq_true hk
 simp only [List.append_nil,Rows.uptoBulkAll] at adT
 exact Calls.nD (fY.calls (xG Tryz.func3 rfl av) (afp (ab3 hL hsh) b0 aa)) fun e W' ⟨v,he,hv,hE⟩=>⟨v,he,afq Ml rfl hE pos av rfl Tryz.underlying4 hv rfl⟩
theorem afn (os:Os):laidMet Tryz.prog Rows.convertToMatchesSpecUptoRow.laid ((NH os).forCall (fun _ _=>0) ⟨#[],#[.slice none 0 0],[]⟩).memory :=
 laidMet_of_run' 8 av av
theorem reads (os:Os) {H:Type} (enc:TypeId×Value→H):∃places,DataW.whole enc Tryz.prog ((NH os).forCall (fun _ _=>0) ⟨#[],#[.slice none 0 0],[]⟩).memory Tryz.f3.params.toList Rows.convertToMatchesSpecSpec.vars false (#[.slice none 0 0]:Array Value).toList 8=some ([.nil],[],places) :=
 ⟨[],av⟩
set_option maxRecDepth 100000 in
theorem lifted (os:Os) (started:os.Started) (H:Type) (enc:TypeId×Value→H) (F:Stop.Interp) :
  ReturnsInHanded {} Tryz.checked os 3 .any ((Rows.OpenSpec.upto Rows.convertToMatchesSpecSpec).preRow enc Tryz.prog Tryz.f3 Rows.convertToMatchesSpecUptoRow.domain false Rows.convertToMatchesSpecUptoRow.laid) (((Rows.OpenSpec.upto Rows.convertToMatchesSpecSpec).at F).post enc Tryz.prog Tryz.f3 false true false false):=by
 obtain ⟨places,hx⟩:=reads os enc
 refine returnsInHanded_of_row (C:=Tryz.checked) (s:=Rows.OpenSpec.upto Rows.convertToMatchesSpecSpec) own started av Tryz.func3
  (witness_row_at (enc:=enc) (C:=Tryz.checked) false (NH os) #[.slice none 0 0] rfl av av av
   (OpenSpec.preRow_of_cond 8 hx av (fun k hk=>by cases hk;kernel_rfl) av (afn os))) ?_
 intro W base args ds gs before hval hW _ hcond _ hL hsh _
 exact abU H enc W base args ds gs before hval hW (hcond _ rfl) hL hsh
theorem ba {a b:Bool} (h:a=true) (k:b=true):(a&&b)=true:=by rw [h,k];rfl
theorem closed:joinedFacts Tryz.pinned.checked.prog 3 Tryz.f3 (OpenSpec.bare (Rows.OpenSpec.upto Rows.convertToMatchesSpecSpec)) Rows.convertToMatchesSpecUptoRow=true:=by
 unfold joinedFacts
 repeat' (with_reducible refine ba ?_ ?_)
 all_goals as_aux_lemma=>kernel_rfl
theorem ajM:Rows.ConvertToMatchesSpecUptoSaid :=
 OpenClaim.holds_of_cond 3 Tryz.f3 rfl rfl rfl rfl rfl rfl rfl ⟨rfl,rfl,rfl,rfl,rfl⟩ rfl rfl rfl rfl rfl (by as_aux_lemma=>kernel_rfl) Tryz.func3 closed
  (of_decide_eq_true (by as_aux_lemma=>kernel_rfl)) (by unfold Func.isWrapper;first|(rw [if_pos (by decide +kernel)];kernel_rfl)|(rw [if_neg (by decide +kernel)];exact ⟨rfl,rfl⟩))
  fun os started H enc _ F=>by rw [OpenClaim.pre_eq_preRow];exact lifted os started H enc F
theorem plain (f:FuncId) (fn:Func) (hf:Tryz.pinned.checked.prog.funcNamed "scriptorium/scriptoriumlaw2.ConvertToMatchesSpec"=some f) (hfn:Tryz.pinned.checked.prog.funcs[f]?=some fn) :
  true=Tryz.pinned.checked.prog.looks []∧∀(j:Nat) t,fn.params[j]?=some t→Tryz.pinned.checked.prog.wantsStandIn t=false:=by
 obtain rfl:f=3:=Option.some.inj ((show Tryz.prog.funcNamed "scriptorium/scriptoriumlaw2.ConvertToMatchesSpec"=some 3 by kernel_rfl).symm.trans hf) |>.symm
 obtain rfl:fn=Tryz.f3:=(Option.some.inj (Tryz.func3.symm.trans hfn)).symm
 refine ⟨av,fun j t ht=>?_⟩
 rw [Tryz.params3] at ht
 have hall:([22]:List TypeId).all (fun t=>!Tryz.prog.wantsStandIn t)=true:=av
 have hm:=List.all_eq_true.1 hall t (by have h9:=Array.mem_of_getElem? ht;simp at h9 ⊢;first|exact h9|exact Or.symm h9)
 have hm2:Tryz.prog.wantsStandIn t=false:=by simpa using hm
 exact hm2
theorem proved:Rows.ConvertToMatchesSpecUptoCardSaid :=
 Claim7.holds_tied_plain_at .later [] _ _ _ _ ajM (fun _ h=>by cases h) (by as_aux_lemma=>kernel_rfl) (fun _ h=>by cases h) convertToMatchesSpecUpto_row_tie rfl ⟨rfl,rfl⟩ (by as_aux_lemma=>kernel_rfl) rfl plain (by as_aux_lemma=>kernel_rfl)
end Go.Proofs.YtmoiobegbpkkbaaGreatDoor.convertToMatchesSpec
