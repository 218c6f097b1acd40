/-
  ConvertRestores holds where what comes in is of bulk at most 1048576 (the given statement Rows.ConvertRestoresUptoCardSaid).
  No other condition.
-/
import Derived.Test.YtmoiobegbpkkbaaGreatDoorRAO
namespace Go.Proofs.YtmoiobegbpkkbaaGreatDoor.convertRestores
open Go Go.RowKit Go.ChangeShapes Go.WideShapes Go.ChangeAt
open Go.ChangeMaps (open_string shut_string)
set_option maxHeartbeats 8000000
theorem own:ownKnob Tryz.prog.godebug=none:=aj
theorem pos:BU Tryz.prog=true:=aj
set_option maxRecDepth 100000 in
theorem YJ (H:Type) (enc:TypeId×Value→H) (W:World) (base:Nat) (args:Array Value) (ds gs:List (DataW H)) (before:List MemPlace)
  (hval:∀(j:Nat) t v,Tryz.f5.params[j]?=some t→args[j]?=some v→Value.okWide Tryz.prog W .any base t v)
  (hW:DataW.Whole enc Tryz.prog Tryz.f5.params.toList Rows.convertRestoresSpec.vars false W args.toList ds gs before) (hk:Rows.uptoSmall H (ds++gs)=true) (hL:laidMetH Tryz.prog Rows.convertRestoresUptoRow.laid W) (hsh:W.ShapedOpen Tryz.prog) :
  Calls Tryz.prog 5 args W fun e W'=>∃v,e=.returned v∧Rows.convertRestoresSpec.post enc Tryz.prog Tryz.f5 false true false false W args v W':=by
 have Jp:=hW
 obtain ⟨p,q,hA0,hV,rfl,JH,ij⟩:=hW
 have hA:DataW.TrodAll enc Tryz.prog W 0 (fun _=>true) true Tryz.f5.params.toList args.toList ds p:=hA0
 rw [Tryz.params5] at hA hval
 obtain ⟨v0,vs0,d0,ds0,p0,q0,ai6,rfl,rfl,h0,r0⟩:=trodAll_cons hA
 obtain ⟨rfl,rfl,rfl⟩:=trodAll_nil r0
 obtain rfl:args=#[v0]:=by cases args;simp_all
 obtain ⟨rfl,rfl⟩:=trodVars_none hV
 obtain ⟨x0,l0,rfl,b0,m0⟩:=adu Tryz.underlying22 Tryz.underlying5 aj (hval 0 22 v0 rfl rfl) h0
 have aaE:Rows.uptoBulkAll ([d0]++[])≤1048576:=of_decide_eq_true hk
 simp only [List.append_nil,Rows.uptoBulkAll] at aaE
 exact Calls.lM (eD.calls (xe Tryz.func5 rfl aj) (ab1 (YV hL hsh) b0 aa)) fun e W' ⟨v,he,hv,hE⟩=>⟨v,he,ab2 Jp rfl hE pos aj rfl Tryz.underlying4 hv rfl⟩
theorem abY (os:Os):laidMet Tryz.prog Rows.convertRestoresUptoRow.laid ((Kx os).forCall (fun _ _=>0) ⟨#[],#[.slice none 0 0],[]⟩).memory :=
 laidMet_of_run' 8 aj aj
theorem reads (os:Os) {H:Type} (enc:TypeId×Value→H):∃places,DataW.whole enc Tryz.prog ((Kx os).forCall (fun _ _=>0) ⟨#[],#[.slice none 0 0],[]⟩).memory Tryz.f5.params.toList Rows.convertRestoresSpec.vars false (#[.slice none 0 0]:Array Value).toList 8=some ([.nil],[],places) :=
 ⟨[],aj⟩
set_option maxRecDepth 100000 in
theorem lifted (os:Os) (started:os.Started) (H:Type) (enc:TypeId×Value→H) (F:Stop.Interp) :
  ReturnsInHanded {} Tryz.checked os 5 .any ((Rows.OpenSpec.upto Rows.convertRestoresSpec).preRow enc Tryz.prog Tryz.f5 Rows.convertRestoresUptoRow.domain false Rows.convertRestoresUptoRow.laid) (((Rows.OpenSpec.upto Rows.convertRestoresSpec).at F).post enc Tryz.prog Tryz.f5 false true false false):=by
 obtain ⟨places,hx⟩:=reads os enc
 refine returnsInHanded_of_row (C:=Tryz.checked) (s:=Rows.OpenSpec.upto Rows.convertRestoresSpec) own started aj Tryz.func5
  (witness_row_at (enc:=enc) (C:=Tryz.checked) false (Kx os) #[.slice none 0 0] rfl aj aj aj
   (OpenSpec.preRow_of_cond 8 hx aj (fun k hk=>by cases hk;kernel_rfl) aj (abY os))) ?_
 intro W base args ds gs before hval hW _ hcond _ hL hsh _
 exact YJ H enc W base args ds gs before hval hW (hcond _ rfl) hL hsh
theorem ba {a b:Bool} (h:a=true) (k:b=true):(a&&b)=true:=by rw [h,k];rfl
theorem closed:joinedFacts Tryz.pinned.checked.prog 5 Tryz.f5 (OpenSpec.bare (Rows.OpenSpec.upto Rows.convertRestoresSpec)) Rows.convertRestoresUptoRow=true:=by
 unfold joinedFacts
 repeat' (with_reducible refine ba ?_ ?_)
 all_goals as_aux_lemma=>kernel_rfl
theorem agd:Rows.ConvertRestoresUptoSaid :=
 OpenClaim.holds_of_cond 5 Tryz.f5 rfl rfl rfl rfl rfl rfl rfl ⟨rfl,rfl,rfl,rfl,rfl⟩ rfl rfl rfl rfl rfl (by as_aux_lemma=>kernel_rfl) Tryz.func5 closed
  (of_decide_eq_true (by as_aux_lemma=>kernel_rfl)) (by unfold Func.isWrapper;first|(rw [if_pos (by decide +kernel)];kernel_rfl)|(rw [if_neg (by decide +kernel)];exact ⟨rfl,rfl⟩))
  fun os started H enc _ F=>by rw [OpenClaim.pre_eq_preRow];exact lifted os started H enc F
theorem plain (f:FuncId) (fn:Func) (hf:Tryz.pinned.checked.prog.funcNamed "scriptorium/scriptoriumlaw2.ConvertRestores"=some f) (hfn:Tryz.pinned.checked.prog.funcs[f]?=some fn) :
  true=Tryz.pinned.checked.prog.looks []∧∀(j:Nat) t,fn.params[j]?=some t→Tryz.pinned.checked.prog.wantsStandIn t=false:=by
 obtain rfl:f=5:=Option.some.inj ((show Tryz.prog.funcNamed "scriptorium/scriptoriumlaw2.ConvertRestores"=some 5 by kernel_rfl).symm.trans hf) |>.symm
 obtain rfl:fn=Tryz.f5:=(Option.some.inj (Tryz.func5.symm.trans hfn)).symm
 refine ⟨aj,fun j t ht=>?_⟩
 rw [Tryz.params5] at ht
 have hall:([22]:List TypeId).all (fun t=>!Tryz.prog.wantsStandIn t)=true:=aj
 have hm:=List.all_eq_true.1 hall t (by have h9:=Array.mem_of_getElem? ht;simp at h9 ⊢;first|exact h9|exact Or.symm h9)
 have hm2:Tryz.prog.wantsStandIn t=false:=by simpa using hm
 exact hm2
theorem proved:Rows.ConvertRestoresUptoCardSaid :=
 Claim7.holds_tied_plain_at .later [] _ _ _ _ agd (fun _ h=>by cases h) (by as_aux_lemma=>kernel_rfl) (fun _ h=>by cases h) convertRestoresUpto_row_tie rfl ⟨rfl,rfl⟩ (by as_aux_lemma=>kernel_rfl) rfl plain (by as_aux_lemma=>kernel_rfl)
end Go.Proofs.YtmoiobegbpkkbaaGreatDoor.convertRestores
