/- ReflectOutside returns true for every module and every number; its arguments read afterwards as before. Condition: the arguments and the listed variable are together of bulk at most 1048576; the listed variable holds its texts when the call begins (tied to the program's text by the card). -/
import Derived.Test.YtaakmholhliodaaGreatDoorCards
import Derived.Test.YtaakmholhliodaaGreatDoorTie
import Derived.Test.YtaakmholhliodaaGreatDoorYa
import Derived.Test.YtaakmholhliodaaGreatDoorZj
import Derived.Test.YtaakmholhliodaaGreatDoorYh
set_option linter.unusedSectionVars false
set_option linter.unusedSimpArgs false
set_option linter.unusedVariables false
namespace Go.Proofs.YtaakmholhliodaaGreatDoor
open Go.Pv
open Go.ChangeShapes Go.WideShapes Go.ChangeAt Go.RowKit
set_option maxRecDepth 100000
theorem reou_met(os:Os):laidMet Tryz.prog Rows.reflectOutsideUptoRow.laid ((laidWorld os).forCall (fun _ _=>0) ⟨#[],#[.agg #[.slice none 0 0,.slice none 0 0,.slice none 0 0,.slice none 0 0,.slice none 0 0,.slice none 0 0],.int .u8 0],[]⟩).memory:=
 laidMet_of_run' 8 (by kernel_rfl) (by kernel_rfl)
theorem reou_reads(os:Os){H:Type}(enc:TypeId × Value->H):∃places,DataW.whole enc Tryz.prog ((laidWorld os).forCall (fun _ _=>0) ⟨#[],#[.agg #[.slice none 0 0,.slice none 0 0,.slice none 0 0,.slice none 0 0,.slice none 0 0,.slice none 0 0],.int .u8 0],[]⟩).memory Tryz.f3.params.toList Rows.reflectOutsideSpec.vars false (#[.agg #[.slice none 0 0,.slice none 0 0,.slice none 0 0,.slice none 0 0,.slice none 0 0,.slice none 0 0],.int .u8 0]:Array Value).toList 8=some ([.agg [.nil,.nil,.nil,.nil,.nil,.nil],.lit (.int .u8 0)],[],places):=
 ⟨[],by kernel_rfl⟩
theorem reou_lifted(os:Os)(started:os.Started)(H:Type)(enc:TypeId × Value->H)(F:Stop.Interp) :
  ReturnsInHanded {} Tryz.checked os 3 .any ((Rows.OpenSpec.upto Rows.reflectOutsideSpec).preRow enc Tryz.prog Tryz.f3 Rows.reflectOutsideUptoRow.domain false Rows.reflectOutsideUptoRow.laid) (((Rows.OpenSpec.upto Rows.reflectOutsideSpec).at F).post enc Tryz.prog Tryz.f3 false true false false):=by
 obtain ⟨places,hx⟩:=reou_reads os enc
 refine returnsInHanded_of_row (C:=Tryz.checked) (s:=Rows.OpenSpec.upto Rows.reflectOutsideSpec) own started (by kernel_rfl) Tryz.func3
  (witness_row_at (enc:=enc) (C:=Tryz.checked) false (laidWorld os) #[.agg #[.slice none 0 0,.slice none 0 0,.slice none 0 0,.slice none 0 0,.slice none 0 0,.slice none 0 0],.int .u8 0] rfl (by kernel_rfl) (by kernel_rfl) (by kernel_rfl)
   (OpenSpec.preRow_of_cond 8 hx (by kernel_rfl) (fun k hk=>by cases hk; kernel_rfl) (by kernel_rfl) (reou_met os))) ?_
 intro W base args ds gs before hval hW _ hcond _ hL _ _
 refine law_contract (P:=Tryz.prog) (tb:=4) (s:=Rows.reflectOutsideSpec) (reachT Tryz.prog 12 [29,5]) (by kernel_rfl) laidOut (by kernel_rfl) (by kernel_rfl) Tryz.underlying4 rfl ?_ hval hW (gokD hL) ?_
 ·intro ds hd
  rw [Tryz.params3] at hd
  match ds,hd with
  | [_,_],_=>rfl
 ·intro css hty hb
  have hb':=small_le (hcond _ rfl)
  rw [Tryz.params3] at hty ⊢
  match css,hty with
  | [c0,c1],⟨⟨n0,h0⟩,⟨n1,h1⟩,_⟩=>
   obtain ⟨m,rfl⟩:=ty_Mo h0
   obtain ⟨v,rfl,hv⟩:=ty_int Tryz.underlying5 h1
   obtain ⟨t,rfl,ht⟩:=u8_nat hv
   simp only [bulkPss] at hb
   have e:argPVs Tryz.prog [29,5] [moL m,[.int .u8 (t:Int)]]=[.agg (moL m),.int .u8 (t:Int)]:=by
    first | (simp only [argPVs,argPV,Tryz.underlying29,Tryz.underlying5]; done) | (simp only [argPVs,argPV,Tryz.underlying29,Tryz.underlying5]; rfl)
   have:=outside_true m t ht (by omega) awL
   rw [<-e] at this
   exact this
theorem reflectOutside_said:Rows.ReflectOutsideUptoSaid:=
 OpenClaim.holds_of_cond 3 Tryz.f3 rfl rfl rfl rfl rfl rfl rfl ⟨rfl,rfl,rfl,rfl,rfl⟩ rfl rfl rfl rfl rfl reou6 Tryz.func3 reou5 reou7 reou8
  (fun os started H enc _ F=>by rw [OpenClaim.pre_eq_preRow]; exact reou_lifted os started H enc F)
theorem reou_plain (f:FuncId) (fn:Func) (hf:Tryz.pinned.checked.prog.funcNamed "liquidcheck/liquidchecklaw40.ReflectOutside" = some f) (hfn:Tryz.pinned.checked.prog.funcs[f]?=some fn) :
  false=Tryz.pinned.checked.prog.looks []/\∀ (j:Nat) t,fn.params[j]?=some t->Tryz.pinned.checked.prog.wantsStandIn t=false:=by
 obtain rfl:f=3:=Option.some.inj ((show Tryz.prog.funcNamed "liquidcheck/liquidchecklaw40.ReflectOutside" = some 3 by kernel_rfl).symm.trans hf) |>.symm
 obtain rfl:fn=Tryz.f3:=(Option.some.inj (Tryz.func3.symm.trans hfn)).symm
 refine ⟨by kernel_rfl,fun j t ht=>?_⟩
 rw [Tryz.params3] at ht
 have hm:=Array.mem_of_getElem? ht
 have:t=29∨t=5:=by simpa using hm
 rcases this with rfl | rfl
 ·exact (show Tryz.prog.wantsStandIn 29=false by kernel_rfl)
 ·exact (show Tryz.prog.wantsStandIn 5=false by kernel_rfl)
theorem reflectOutside_holds:Rows.ReflectOutsideUptoCardSaid:=
 Claim7.holds_tied_plain_at .later [] _ _ _ _ reflectOutside_said (fun _ h=>by cases h) (by kernel_rfl) (fun _ h=>by cases h) reflectOutsideUpto_row_tie rfl ⟨rfl,rfl⟩ (by kernel_rfl) rfl reou_plain (by kernel_rfl)
#print axioms reflectOutside_holds
end Go.Proofs.YtaakmholhliodaaGreatDoor
